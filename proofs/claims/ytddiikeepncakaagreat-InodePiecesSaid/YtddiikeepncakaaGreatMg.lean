/- Texts of one claim, put together in their order: what each proves stands ahead of it. -/
import Derived.Test.YtddiikeepncakaaGreatMf
import Derived.Test.YtddiikeepncakaaGreatMd
import Derived.Test.YtddiikeepncakaaGreatMc
import Derived.Carry
import Derived.Deep.Slices
import Derived.Lib.SmallJoins
import Derived.OpenShut
/- The reference's map is made. -/
namespace Go.Proofs.YtddiikeepncakaaGreat
open Go
set_option linter.unusedSimpArgs false
open Go.RowKit (intOf)
theorem upto1_zero (N : Nat) : upto1 0 N = List.replicate N false := by
  refine List.ext_getElem? fun i => ?_
  by_cases hi : i < N
  · rw [upto1_get hi, List.getElem?_replicate, if_pos hi, decide_eq_false (by omega)]
  · rw [List.getElem?_eq_none (by rw [upto1_length]; omega), List.getElem?_eq_none (by rw [List.length_replicate]; omega)]
theorem rfirstc_spec {w : World} {r k : Nat} (hc : w.cell? ⟨r, 1, none⟩ = some (.int .i64 k)) (hk : k ≤ 100000) : Calls Tryz.prog 79 #[.pointer (some ⟨r, 0, none⟩)] w (Ret fun v w' => v = .int .i64 ((3 + k / 8 : Nat) : Int) ∧ w' = w) := by
  apply enter79
  apply R_in
  simp (maxSteps := 1000000) (disch := omega) only [↓sy1, sy2, sy3, readOK, sy5, sy6, Nat.reduceEqDiff, ↓reduceIte, sy7, sy8, sy9, sya, oneOf, syb, syc, Nat.reduceAdd, Nat.reduceMul, syd, sye, syf, syg, syh, reduceCtorEq, F79, hc, tdiv8]
  exact R_out (congrArg (Value.int .i64) (by omega))
theorem fillF_4 {a b c d x y z u : Value} (hx : isCell x = true) (hy : isCell y = true) (hz : isCell z = true) (hu : isCell u = true) : fillF #[a, b, c, d] [(0, 1, x), (1, 1, y), (2, 1, z), (3, 1, u)] = some #[x, y, z, u] := by
  rw [fillF_cell hx (by simp), fillF_cell hy (by simp), fillF_cell hz (by simp), fillF_cell hu (by simp), fillF_nil]; simp
/-- So many bools are made. -/
theorem mkb_rule {k : Kont} {e : Env} {w : World} {l : List GOp} {d : Option Nat} {x y : Operand} {n : Nat} {ty : TypeId} (hx : ev e x = .int .i64 n) (hy : ev e y = .int .i64 n) (hn : n ≤ 5000) (hh : ∀ v w', Grow w w' → w'.ownsRow w.heap.size 4 1 v n (bls (List.replicate n false)) → R (symOps Tryz.prog l k (updO e d v) w')) :
    R (symOps Tryz.prog (⟨d, .hard (H (.makeSlice 137 x y) ty), none⟩ :: l) k e w) := by
  refine mk_rule elemBo (kx := .i64) (ky := .i64) (a := n) (c := n) hx hy (by omega) (by omega) (by omega) (by omega) rfl ?_
  rw [show ((n : Int)).toNat = n from rfl]
  refine hh _ _ ((Keep.refl _ _).alloc _) ?_
  have ho7 := own_made w w.heap.size (Nat.le_refl _) 4 n (by omega) (.bool false)
  rw [show bls (List.replicate n false) = List.replicate n (.bool false) from List.map_replicate]; exact ho7
set_option maxHeartbeats 4000000 in
theorem rmake_spec {w : World} {N k : Nat} (G : Gh) (μ : Nat) (hμ : μ ≠ 0) (hk : mayA N k) :
    Calls Tryz.prog 37 #[.int .i64 N, .int .i64 k] w (Ret fun v w' => ∃ r G', v = .tuple #[.pointer (some ⟨r, 0, none⟩), .int .i64 0] ∧ RM G' μ w' r (upto1 (3 + k / 8) N) (upto1 1 k) ∧ Ext0 G w G' w') := by
  apply enter37
  apply R_in
  have hk' := hk
  unfold mayA at hk'
  simp (maxSteps := 1000000) (disch := omega) only [↓sy1, sy2, sy3, readOK, sy5, sy6, Nat.reduceEqDiff, ↓reduceIte, sy7, sy8, sy9, sya, oneOf, syb, syc, Nat.reduceAdd, Nat.reduceMul, syd, sye, syf, syg, syh, reduceCtorEq, F37, show ¬ ((k : Int) < 8) from by omega, show ¬ ((512 : Int) < (k : Int)) from by omega, decide_true, decide_false, tmod8, tdiv8, show (((k % 8 : Nat) : Int) = 0) from by omega, show ¬ ((4096 : Int) < (N : Int)) from by omega, show ¬ ((N : Int) ≤ 3 + ((k / 8 : Nat) : Int)) from by omega]
  refine draw37_0 (fun _ => False) ?_
  have hgd : Grow w w.drew := (Keep.refl _ _).drew
  generalize hw0 : w.drew = w0 at hgd ⊢
  have hB0 := hgd.size
  clear hw0
  simp (maxSteps := 1000000) (disch := omega) only [↓sy1, sy2, sy3, readOK, sy5, sy6, Nat.reduceEqDiff, ↓reduceIte, sy7, sy8, sy9, sya, oneOf, syb, syc, Nat.reduceAdd, Nat.reduceMul, syd, sye, syf, syg, syh, reduceCtorEq, PL37_0]
  have fin : ∀ (e : Env) (w2 : World) (pv iv : Value), Grow w w2 → w2.ownsRow w.heap.size 4 1 pv N (bls (List.replicate N false)) → w2.ownsRow w.heap.size 4 1 iv k (bls (List.replicate k false)) → (∀ b, pv.ownBlock = some b → iv.ownBlock ≠ some b) →
      e 6 = .pointer (some ⟨w2.heap.size, 0, none⟩) → R (symS 56 Tryz.prog ((((SCode.ops [⟨some 7, .mv (.const (.int .i64 0)), none⟩]).seq (SCode.block 0 (.loop F37_L0))).seq
        ((SCode.ops [⟨some 50, .mv (.tmp 6), none⟩, ⟨some 51, .nilc (.tmp 50), none⟩, ⟨some 52, .fa 3 (.tmp 51), none⟩, ⟨some 53, .ld (.tmp 52), none⟩, ⟨some 54, .ia 1 (.tmp 53) (.const (.int .i64 0)), none⟩, ⟨none, .st (.tmp 54) (.const (.bool true)), none⟩]).seq
          ((SCode.ops [⟨some 55, .mv (.tmp 6), none⟩, ⟨some 4, .mv (.tmp 55), none⟩, ⟨some 5, .mv (.const (.int .i64 0)), none⟩]).seq SCode.ret))))
        ⟨fun e w_1 => ∃ r G', Value.tuple #[e 4, e 5] = .tuple #[.pointer (some ⟨r, 0, none⟩), .int .i64 0] ∧ RM G' μ w_1 r (upto1 (3 + k / 8) N) (upto1 1 k) ∧ Ext0 G w G' w_1, fun _ _ _ => False, fun e w_1 => ∃ r G', Value.tuple #[e 4, e 5] = .tuple #[.pointer (some ⟨r, 0, none⟩), .int .i64 0] ∧ RM G' μ w_1 r (upto1 (3 + k / 8) N) (upto1 1 k) ∧ Ext0 G w G' w_1, NoPanic⟩ e (w2.alloc (.cells #[.int .i64 N, .int .i64 k, pv, iv] 139))) := by
    intro e w2 pv iv hg2 hp hi hne e6
    have hg3 : Grow w2 (w2.alloc (.cells #[.int .i64 N, .int .i64 k, pv, iv] 139)) := (Keep.refl _ _).alloc _
    have hb3 := heap_alloc_new w2 (.cells #[.int .i64 N, .int .i64 k, pv, iv] 139)
    have hr := hg2.size
    generalize w2.alloc (.cells #[.int .i64 N, .int .i64 k, pv, iv] 139) = w3 at hg3 hb3 ⊢
    have hp3 := own_grow hp hg3
    have hi3 := own_grow hi hg3
    have hpr : ∀ b, pv.ownBlock = some b → b ≠ w2.heap.size := fun b hb => by have := (World.ownsRow.lt hp b hb).2; omega
    have hir : ∀ b, iv.ownBlock = some b → b ≠ w2.heap.size := fun b hb => by have := (World.ownsRow.lt hi b hb).2; omega
    have hg03 := hg2.trans hg3
    generalize w2.heap.size = r at hb3 e6 hr hpr hir
    rw [← upto1_zero] at hp3 hi3
    simp (maxSteps := 1000000) (disch := omega) only [↓sy1, sy2, sy3, readOK, sy5, sy6, Nat.reduceEqDiff, ↓reduceIte, sy7, sy8, sy9, sya, oneOf, syb, syc, Nat.reduceAdd, Nat.reduceMul, syd, sye, syf, syg, syh, reduceCtorEq]
    refine loop_rule (fun e w' => ∃ i : Nat, i ≤ 3 + k / 8 ∧ e 7 = .int .i64 i ∧ e 6 = .pointer (some ⟨r, 0, none⟩) ∧ w'.heap[r]? = some (.cells #[.int .i64 N, .int .i64 k, pv, iv] 139 (0, 0)) ∧ w'.ownsRow w.heap.size 4 1 pv N (bls (upto1 i N)) ∧ w'.ownsRow w.heap.size 4 1 iv k (bls (upto1 0 k)) ∧ Grow w w') (fun e _ => 3 + k / 8 - (intOf (e 7)).toNat)
      ⟨0, by omega, by simp [upd, updO, ev], by simp [upd, updO, ev, e6], hb3, hp3, hi3, hg03⟩ ?_
    clear hb3 hp3 hi3 hg03 hp hi hg2 hg3 e6
    rintro e w4 ⟨i, hi', e7, e6, hb4, hp4, hi4, hg4⟩
    have hc1 : w4.cell? ⟨r, 1, none⟩ = some (.int .i64 k) := by rw [cell_block hb4]; rfl
    have hc2 : w4.cell? ⟨r, 2, none⟩ = some pv := by rw [cell_block hb4]; rfl
    have hc3 : w4.cell? ⟨r, 3, none⟩ = some iv := by rw [cell_block hb4]; rfl
    by_cases hlt : i < 3 + k / 8
    · obtain ⟨a, w5, ha, hst, hp5, hk5, _⟩ := own_store hp4 (i := i) (by omega) (u := .bool true) rfl
      rw [bls_set, upto1_set (by omega)] at hp5
      simp (maxSteps := 1000000) (disch := omega) only [↓sy1, sy2, sy3, readOK, sy5, sy6, Nat.reduceEqDiff, ↓reduceIte, sy7, sy8, sy9, sya, oneOf, syb, syc, Nat.reduceAdd, Nat.reduceMul, syd, sye, syf, syg, syh, reduceCtorEq, F37_L0, e7, e6]
      refine call0 (rfirstc_spec hc1 (by omega)) ?_
      rintro _ w4 ⟨rfl, rfl⟩
      simp (maxSteps := 1000000) (disch := omega) only [↓sy1, sy2, sy3, readOK, sy5, sy6, Nat.reduceEqDiff, ↓reduceIte, sy7, sy8, sy9, sya, oneOf, syb, syc, Nat.reduceAdd, Nat.reduceMul, syd, sye, syf, syg, syh, reduceCtorEq, e7, e6, Int.ofNat_lt, hlt, decide_true, hc2, ha, hst]
      exact R_out ⟨⟨i + 1, by omega, rfl, hk5.heap hb4 (fun hh => hpr _ hh rfl), hp5, own_keep hi4 hk5 (fun b hb hh => hne b hh hb), hg4.then hk5 (fun b hb hh => by have := (World.ownsRow.lt hp4 b hh).1; omega)⟩, by simp only [intOf]; omega⟩
    · have hie : i = 3 + k / 8 := by omega
      subst hie
      obtain ⟨a, w5, ha, hst, hi5, hk5, _⟩ := own_store hi4 (i := 0) (by omega) (u := .bool true) rfl
      have ha : iaF 1 iv (.int .i64 0) = some (.pointer (some a)) := ha
      rw [bls_set, upto1_set (by omega)] at hi5
      have hp5 := own_keep hp4 hk5 (fun b hb hh => hne b hb hh)
      have hb5 := hk5.heap hb4 (fun hh => hir _ hh rfl)
      have hg5 : Grow w w5 := hg4.then hk5 (fun b hb hh => by have := (World.ownsRow.lt hi4 b hh).1; omega)
      simp (maxSteps := 1000000) (disch := omega) only [↓sy1, sy2, sy3, readOK, sy5, sy6, Nat.reduceEqDiff, ↓reduceIte, sy7, sy8, sy9, sya, oneOf, syb, syc, Nat.reduceAdd, Nat.reduceMul, syd, sye, syf, syg, syh, reduceCtorEq, F37_L0, e7, e6]
      refine call0 (rfirstc_spec hc1 (by omega)) ?_
      rintro _ w4 ⟨rfl, rfl⟩
      simp (maxSteps := 1000000) (disch := omega) only [↓sy1, sy2, sy3, readOK, sy5, sy6, Nat.reduceEqDiff, ↓reduceIte, sy7, sy8, sy9, sya, oneOf, syb, syc, Nat.reduceAdd, Nat.reduceMul, syd, sye, syf, syg, syh, reduceCtorEq, e7, e6, Int.ofNat_lt, Nat.lt_irrefl, decide_false, hc3, ha, hst]
      have hx : Ext0 G w (G.upto w.heap.size (fun b => if b = r then μ else 0) (fun _ => 0)) w5 := .upto hg5 _ _
      have hown : ∀ b, w.heap.size ≤ b → b ≠ r → (G.upto w.heap.size (fun b => if b = r then μ else 0) (fun _ => 0)).own b = 0 := fun b hb hbr => by simp [Gh.upto, Nat.not_lt.2 hb, hbr]
      refine R_out ⟨r, _, rfl, ⟨hμ, by simp [Gh.upto, Nat.not_lt.2 hr], by simp [Gh.upto, Nat.not_lt.2 hr], by rw [upto1_length]; omega, by rw [upto1_length]; omega, pv, iv, ?_, ⟨Has.own hp5, fun b hb _ => ⟨(World.ownsRow.lt hp5 b hb).2, hown b (World.ownsRow.lt hp5 b hb).1 (hpr b hb)⟩⟩, ⟨Has.own hi5, fun b hb _ => ⟨(World.ownsRow.lt hi5 b hb).2, hown b (World.ownsRow.lt hi5 b hb).1 (hir b hb)⟩⟩⟩, hx⟩
      rw [upto1_length, upto1_length]; exact hb5
  refine ⟨mkb_rule (n := N) (by simp only [upd_at, Nat.reduceEqDiff, reduceIte, ev_tmp, ev_const, List.map_cons, List.map_nil]) (by simp only [upd_at, Nat.reduceEqDiff, reduceIte, ev_tmp, ev_const, List.map_cons, List.map_nil]) (by omega) (fun pv w1 hg1 hp => ?_), mkb_rule (n := k) (by simp only [upd_at, Nat.reduceEqDiff, reduceIte, ev_tmp, ev_const, List.map_cons, List.map_nil]) (by simp only [upd_at, Nat.reduceEqDiff, reduceIte, ev_tmp, ev_const, List.map_cons, List.map_nil]) (by omega) (fun iv w1 hg1 hi => ?_)⟩
  · simp (maxSteps := 1000000) (disch := omega) only [↓sy1, sy2, sy3, readOK, sy5, sy6, Nat.reduceEqDiff, ↓reduceIte, sy7, sy8, sy9, sya, oneOf, syb, syc, Nat.reduceAdd, Nat.reduceMul, syd, sye, syf, syg, syh, reduceCtorEq]
    refine mkb_rule (n := k) (by simp only [upd_at, Nat.reduceEqDiff, reduceIte, ev_tmp, ev_const, List.map_cons, List.map_nil]) (by simp only [upd_at, Nat.reduceEqDiff, reduceIte, ev_tmp, ev_const, List.map_cons, List.map_nil]) (by omega) (fun iv w2 hg2 hi => ?_)
    have hpc := (Has.own hp).isCell
    have hic := (Has.own hi).isCell
    have hne : ∀ b, pv.ownBlock = some b → iv.ownBlock ≠ some b := fun b hb hh => by
      have := (World.ownsRow.lt hp b hb).2
      have := (World.ownsRow.lt hi b hh).1; omega
    have hg1s := hg1.size
    simp (maxSteps := 1000000) (disch := omega) only [↓sy1, sy2, sy3, readOK, sy5, sy6, Nat.reduceEqDiff, ↓reduceIte, sy7, sy8, sy9, sya, oneOf, syb, syc, Nat.reduceAdd, Nat.reduceMul, syd, sye, syf, syg, syh, reduceCtorEq, fill_gen, List.map_cons, List.map_nil, fillF_4 (x := .int .i64 (N : Int)) (y := .int .i64 (k : Int)) (z := pv) (u := iv) rfl rfl hpc hic, agg4_cells (x := .int .i64 (N : Int)) (y := .int .i64 (k : Int)) (z := pv) (u := iv) rfl rfl hpc hic]
    refine fin _ w2 pv iv ((hgd.trans hg1).trans hg2) (own_base (own_grow hp hg2) (by omega)) (own_base hi (by omega)) hne ?_
    simp [upd]
  · simp (maxSteps := 1000000) (disch := omega) only [↓sy1, sy2, sy3, readOK, sy5, sy6, Nat.reduceEqDiff, ↓reduceIte, sy7, sy8, sy9, sya, oneOf, syb, syc, Nat.reduceAdd, Nat.reduceMul, syd, sye, syf, syg, syh, reduceCtorEq]
    refine mkb_rule (n := N) (by simp only [upd_at, Nat.reduceEqDiff, reduceIte, ev_tmp, ev_const, List.map_cons, List.map_nil]) (by simp only [upd_at, Nat.reduceEqDiff, reduceIte, ev_tmp, ev_const, List.map_cons, List.map_nil]) (by omega) (fun pv w2 hg2 hp => ?_)
    have hpc := (Has.own hp).isCell
    have hic := (Has.own hi).isCell
    have hne : ∀ b, pv.ownBlock = some b → iv.ownBlock ≠ some b := fun b hb hh => by
      have := (World.ownsRow.lt hp b hb).1
      have := (World.ownsRow.lt hi b hh).2; omega
    have hg1s := hg1.size
    simp (maxSteps := 1000000) (disch := omega) only [↓sy1, sy2, sy3, readOK, sy5, sy6, Nat.reduceEqDiff, ↓reduceIte, sy7, sy8, sy9, sya, oneOf, syb, syc, Nat.reduceAdd, Nat.reduceMul, syd, sye, syf, syg, syh, reduceCtorEq, fill_gen, List.map_cons, List.map_nil, fillF_4 (x := .int .i64 (N : Int)) (y := .int .i64 (k : Int)) (z := pv) (u := iv) rfl rfl hpc hic, agg4_cells (x := .int .i64 (N : Int)) (y := .int .i64 (k : Int)) (z := pv) (u := iv) rfl rfl hpc hic]
    refine fin _ w2 pv iv ((hgd.trans hg1).trans hg2) (own_base hp (by omega)) (own_base (own_grow hi hg2) (by omega)) hne ?_
    simp [upd]
end Go.Proofs.YtddiikeepncakaaGreat

/- The reference's files in memory, in few words; a new one; what is committed and forgotten. -/
namespace Go.Proofs.YtddiikeepncakaaGreat
open Go
set_option linter.unusedSimpArgs false
open Go.RowKit (intOf)
def zfile : List Value := [.int .i64 0, .int .i64 0, .int .i64 0, .slice none 0 0, .slice none 0 0, .int .i64 0]
theorem elemRF : ElemIs Tryz.prog 100 105 6 80 (.agg zfile.toArray) := elem_of (by kernel_rfl)
/-- A row that stays. -/
def ZeroK (k : Nat) (G : Gh) (w : World) (v : Value) (xs : List Value) : Prop := Has k w v xs ∧ ∀ b, v.ownBlock = some b → xs ≠ [] → b < w.heap.size ∧ G.own b = 0
theorem ZeroK.ext {k : Nat} {K : Nat → Prop} {G G' : Gh} {w w' : World} {v : Value} {xs : List Value} (h : ZeroK k G w v xs) (hx : Ext K G w G' w') (h0 : ¬ K 0) : ZeroK k G' w' v xs := by
  refine ⟨h.1.keep hx.keep (fun b hb hne => by rw [(h.2 b hb hne).2]; exact h0), fun b hb hne => ?_⟩
  obtain ⟨h1, h2⟩ := h.2 b hb hne
  exact ⟨Nat.lt_of_lt_of_le h1 hx.size, by rw [hx.own b h1]; exact h2⟩
/-- The cells of a file. -/
def RF (G : Gh) (w : World) (cs : List Value) : Prop := ∃ (kd md ln ind : Int) (bv dv : Value) (b : List UInt8) (d : List Int), cs = [.int .i64 kd, .int .i64 md, .int .i64 ln, bv, dv, .int .i64 ind] ∧ Zero G w bv (bs b) ∧ Zero G w dv (ints d) ∧ b.length ≤ 70656 ∧ d.length ≤ 138
theorem RF.ext {K : Nat → Prop} {G G' : Gh} {w w' : World} {cs : List Value} (h : RF G w cs) (hx : Ext K G w G' w') (h0 : ¬ K 0) : RF G' w' cs := by
  obtain ⟨kd, md, ln, ind, bv, dv, b, d, rfl, h1, h2, h3, h4⟩ := h
  exact ⟨kd, md, ln, ind, bv, dv, b, d, rfl, h1.ext hx h0, h2.ext hx h0, h3, h4⟩
theorem RF.zero (G : Gh) (w : World) : RF G w zfile := ⟨0, 0, 0, 0, _, _, [], [], rfl, ⟨Has.nil _ _, fun b hb => by cases hb⟩, ⟨Has.nil _ _, fun b hb => by cases hb⟩, by simp, by simp⟩
theorem RF.len {G : Gh} {w : World} {cs : List Value} (h : RF G w cs) : cs.length = 6 := by obtain ⟨_, _, _, _, _, _, _, _, rfl, _⟩ := h; rfl
theorem RF.cells {G : Gh} {w : World} {cs : List Value} (h : RF G w cs) : ∀ u ∈ cs, isCell u = true := by
  obtain ⟨kd, md, ln, ind, bv, dv, b, d, rfl, h1, h2, h3, h4⟩ := h
  intro u hu
  simp at hu
  rcases hu with rfl | rfl | rfl | rfl | rfl | rfl
  · rfl
  · rfl
  · rfl
  · exact h1.1.isCell
  · exact h2.1.isCell
  · rfl
/-- So many files. -/
def RFs (G : Gh) (w : World) (v : Value) (k : Nat) : Prop := ∃ css : List (List Value), css.length = k ∧ ZeroK 6 G w v css.flatten ∧ ∀ cs ∈ css, RF G w cs
theorem RFs.ext {k : Nat} {K : Nat → Prop} {G G' : Gh} {w w' : World} {v : Value} (h : RFs G w v k) (hx : Ext K G w G' w') (h0 : ¬ K 0) : RFs G' w' v k := by
  obtain ⟨css, h1, h2, h3⟩ := h
  exact ⟨css, h1, h2.ext hx h0, fun cs hc => (h3 cs hc).ext hx h0⟩
theorem flat6 : ∀ {css : List (List Value)}, (∀ cs ∈ css, cs.length = 6) → css.flatten.length = css.length * 6
  | [], _ => rfl
  | c :: css, h => by
    rw [List.flatten_cons, List.length_append, h c (by simp), flat6 (fun cs hc => h cs (by simp [hc])), List.length_cons]; omega
theorem flat6_at : ∀ {css : List (List Value)} {i j : Nat} {cs : List Value}, (∀ cs ∈ css, cs.length = 6) → css[i]? = some cs → j < 6 → css.flatten[i * 6 + j]? = cs[j]?
  | [], i, j, cs, _, hi, _ => by simp at hi
  | c :: css, 0, j, cs, h, hi, hj => by
    simp at hi; subst hi
    rw [List.flatten_cons, List.getElem?_append_left (by rw [h c (by simp)]; omega)]
    congr 1; omega
  | c :: css, i + 1, j, cs, h, hi, hj => by
    simp at hi
    have hc := h c (by simp)
    rw [List.flatten_cons, List.getElem?_append_right (by omega), hc, show (i + 1) * 6 + j - 6 = i * 6 + j from by omega]
    exact flat6_at (fun cs hc => h cs (by simp [hc])) hi hj
theorem made6 (k : Nat) : (madeCells (Value.agg zfile.toArray).cells (k * 6)).toList = (List.replicate k zfile).flatten := by
  have hz : (Value.agg zfile.toArray).cells = zfile.toArray := rfl
  rw [hz]
  refine List.ext_getElem? fun j => ?_
  by_cases hj : j < k * 6
  · have h1 := flat6_at (css := List.replicate k zfile) (i := j / 6) (j := j % 6) (cs := zfile) (fun cs hc => by rw [(List.mem_replicate.1 hc).2]; rfl) (by rw [List.getElem?_replicate, if_pos (by omega)]) (by omega)
    rw [show j / 6 * 6 + j % 6 = j from by omega] at h1
    have hl : zfile.toArray.size = 6 := rfl
    have h2 : (madeCells zfile.toArray (k * 6)).toList[j]? = some (zfile.toArray[j % 6]!) := by
      simp [madeCells, hj, hl]
    rw [h1, h2]
    have h3 : j % 6 < 6 := by omega
    generalize j % 6 = i at h3
    match i, h3 with
    | 0, _ => rfl
    | 1, _ => rfl
    | 2, _ => rfl
    | 3, _ => rfl
    | 4, _ => rfl
    | 5, _ => rfl
  · rw [List.getElem?_eq_none (by simp [size_madeCells]; omega), List.getElem?_eq_none (by rw [flat6 (fun cs hc => by rw [(List.mem_replicate.1 hc).2]; rfl), List.length_replicate]; omega)]
/-- A map that stays. -/
structure RK (G : Gh) (w : World) (r : Nat) (P I : List Bool) : Prop where
  own : G.own r = 0
  p4 : P.length ≤ 4096
  i5 : I.length ≤ 512
  at_ : ∃ pv iv, w.heap[r]? = some (.cells #[.int .i64 P.length, .int .i64 I.length, pv, iv] 139 (0, 0)) ∧ Zero G w pv (bls P) ∧ Zero G w iv (bls I)
theorem RK.ext {K : Nat → Prop} {G G' : Gh} {w w' : World} {r : Nat} {P I : List Bool} (h : RK G w r P I) (hx : Ext K G w G' w') (h0 : ¬ K 0) : RK G' w' r P I := by
  obtain ⟨h2, h4, h5, pv, iv, h6, h7, h8⟩ := h
  have hlt := hx.lt h6
  exact ⟨by rw [hx.own r hlt]; exact h2, h4, h5, pv, iv, hx.heap h6 (by rw [h2]; exact h0), h7.ext hx h0, h8.ext hx h0⟩
/-- The reference's store: its map, its files; both as they were when all was committed last. -/
structure RS (G : Gh) (w : World) (r k : Nat) : Prop where
  own : G.own r = 11
  fix : G.fix r = 0
  at_ : ∃ M lv KM kv P I P2 I2, w.heap[r]? = some (.cells #[.pointer (some ⟨M, 0, none⟩), lv, .pointer (some ⟨KM, 0, none⟩), kv] 102 (0, 0)) ∧ RM G 8 w M P I ∧ I.length = k ∧ RK G w KM P2 I2 ∧ I2.length = k ∧ RFs G w lv k ∧ RFs G w kv k
theorem RS.ext {K : Nat → Prop} {G G' : Gh} {w w' : World} {r k : Nat} (h : RS G w r k) (hx : Ext K G w G' w') (h0 : ¬ K 0) (h8 : ¬ K 8) (h11 : ¬ K 11) : RS G' w' r k := by
  obtain ⟨h1, h2, M, lv, KM, kv, P, I, P2, I2, h3, h4, h5, h6, h7, h9, h10⟩ := h
  have hlt := hx.lt h3
  exact ⟨by rw [hx.own r hlt]; exact h1, by rw [hx.fixe r hlt (by rw [h1]; exact h11)]; exact h2, M, lv, KM, kv, P, I, P2, I2, hx.heap h3 (by rw [h1]; exact h11), h4.ext hx h8 h0, h5, h6.ext hx h0, h7, h9.ext hx h0, h10.ext hx h0⟩
section
variable {G : Gh} {w : World} {r M : Nat} {P I : List Bool}
/-- A map is copied. -/
theorem rmfork_spec {pv iv : Value} (o : Nat) (hM : w.heap[M]? = some (.cells #[.int .i64 P.length, .int .i64 I.length, pv, iv] 139 (0, 0))) (hpc : isCell pv = true) (hic : isCell iv = true) :
    Calls Tryz.prog 55 #[.pointer (some ⟨M, 0, none⟩)] w (Ret fun v w' => ∃ f, v = .pointer (some ⟨f, 0, none⟩) ∧ w.heap.size ≤ f ∧ w'.heap[f]? = some (.cells #[.int .i64 P.length, .int .i64 I.length, pv, iv] 139 (0, 0)) ∧ Grow w w') := by
  apply enter55
  apply R_in
  have hl4 := loadN4b hM
  have hg : Grow w (w.alloc (.cells (Value.agg #[.int .i64 0, .int .i64 0, .slice none 0 0, .slice none 0 0]).cells 139)) := (Keep.refl _ _).alloc _
  have hb := heap_alloc_new w (.cells (Value.agg #[.int .i64 0, .int .i64 0, .slice none 0 0, .slice none 0 0]).cells 139)
  have hcl : ∀ u ∈ [Value.int .i64 P.length, .int .i64 I.length, pv, iv], isCell u = true := by
    intro u hu
    simp at hu
    rcases hu with rfl | rfl | rfl | rfl
    · rfl
    · rfl
    · exact hpc
    · exact hic
  obtain ⟨w2, hs2, hb2, hk2⟩ := storeN_cells [Value.int .i64 P.length, .int .i64 I.length, pv, iv] _ _ 0 hb (by simp [Value.cells]) hcl
  have st2 : stnF (w.alloc (.cells (Value.agg #[.int .i64 0, .int .i64 0, .slice none 0 0, .slice none 0 0]).cells 139)) 4 (.pointer (some ⟨w.heap.size, 0, none⟩)) (.agg #[.int .i64 P.length, .int .i64 I.length, pv, iv]) = some (undef, w2) := by
    have hs2' := hs2
    simp only [stnF, Value.cells]
    show (if (4 : Nat) = 4 then _ else _) = _
    rw [if_pos rfl]
    exact congrArg (Option.map fun w => (undef, w)) hs2'
  simp (maxSteps := 1000000) (disch := omega) only [↓sy1, sy2, sy3, readOK, sy5, sy6, Nat.reduceEqDiff, ↓reduceIte, sy7, sy8, sy9, sya, oneOf, syb, syc, Nat.reduceAdd, Nat.reduceMul, syd, sye, syf, syg, syh, reduceCtorEq, F55, hl4, st2]
  refine R_out ⟨w.heap.size, rfl, Nat.le_refl _, ?_, hg.then hk2 (fun b hb hh => by omega)⟩
  rw [hb2]; rfl
end
end Go.Proofs.YtddiikeepncakaaGreat

/- The reference's store: all is kept; a new one. A disk for the laws. -/
namespace Go.Proofs.YtddiikeepncakaaGreat
open Go
set_option linter.unusedSimpArgs false
open Go.RowKit (intOf)
section
variable {G : Gh} {w : World} {r k : Nat}
/-- A store of which nothing need be kept yet. -/
structure RS0 (G : Gh) (w : World) (r k : Nat) : Prop where
  own : G.own r = 11
  fix : G.fix r = 0
  at_ : ∃ M lv kmv kv P I, w.heap[r]? = some (.cells #[.pointer (some ⟨M, 0, none⟩), lv, kmv, kv] 102 (0, 0)) ∧ RM G 8 w M P I ∧ I.length = k ∧ RFs G w lv k
theorem RS.zero (h : RS G w r k) : RS0 G w r k := by
  obtain ⟨h1, h2, M, lv, KM, kv, P, I, P2, I2, h3, h4, h5, h6, h7, h9, h10⟩ := h
  exact ⟨h1, h2, M, lv, _, kv, P, I, h3, h4, h5, h9⟩
theorem RFs.isCell {v : Value} (h : RFs G w v k) : isCell v = true := by obtain ⟨css, _, h2, _⟩ := h; exact h2.1.isCell
set_option maxHeartbeats 1000000 in
theorem rs_commit (h : RS0 G w r k) : Calls Tryz.prog 22 #[.pointer (some ⟨r, 0, none⟩)] w (Ret fun _ w' => ∃ G', RS G' w' r k ∧ Ext (fun x => x = 11) G w G' w' ∧ Keep (fun b => b = r) w w' ∧ ∀ b, b < w.heap.size → G'.own b = G.own b ∧ G'.fix b = G.fix b) := by
  obtain ⟨h1, h2, M, lv, kmv, kv, P, I, h3, h4, h5, h6⟩ := h
  obtain ⟨r1, r2, r3, r4, r5, pv, iv, hM, hpz, hiz⟩ := id h4
  apply enter22
  apply R_in
  simp (maxSteps := 1000000) (disch := omega) only [↓sy1, sy2, sy3, readOK, sy5, sy6, Nat.reduceEqDiff, ↓reduceIte, sy7, sy8, sy9, sya, oneOf, syb, syc, Nat.reduceAdd, Nat.reduceMul, syd, sye, syf, syg, syh, reduceCtorEq, F22]
  refine draw22_0 (fun _ => False) ?_
  have hgd : Grow w w.drew := (Keep.refl _ _).drew
  have hxd : Ext0 G w G w.drew := .grow hgd
  have h3d := hgd.gheap h3
  have hMd := hgd.gheap hM
  generalize w.drew = w0 at hgd hxd h3d hMd ⊢
  have hc0 : w0.cell? ⟨r, 0, none⟩ = some (.pointer (some ⟨M, 0, none⟩)) := by rw [cell_block h3d]; rfl
  have hc1 : w0.cell? ⟨r, 1, none⟩ = some lv := by rw [cell_block h3d]; rfl
  simp (maxSteps := 1000000) (disch := omega) only [↓sy1, sy2, sy3, readOK, sy5, sy6, Nat.reduceEqDiff, ↓reduceIte, sy7, sy8, sy9, sya, oneOf, syb, syc, Nat.reduceAdd, Nat.reduceMul, syd, sye, syf, syg, syh, reduceCtorEq, PL22_0, hc0, hc1]
  refine call0 (rmfork_spec 0 hMd hpz.1.isCell hiz.1.isCell) ?_
  rintro _ w1 ⟨f, rfl, hf, hF, hg1⟩
  have hx1 : Ext0 G w (G.upto w0.heap.size (fun _ => 0) (fun _ => 0)) w1 := hxd.trans (.upto hg1 _ _)
  have hof := upto_own (G := G) (o := 0) (f := 0) hf
  have hrl : r < w.heap.size := (Array.getElem?_eq_some_iff.1 h3).1
  have hgf : ∀ b, b < w.heap.size → (G.upto w0.heap.size (fun _ => 0) (fun _ => 0)).own b = G.own b ∧ (G.upto w0.heap.size (fun _ => 0) (fun _ => 0)).fix b = G.fix b := fun b hb => ⟨hx1.own b hb, hx1.fixe b hb id⟩
  have hk1 : Keep (fun b => b = r) w w1 := (hgd.trans hg1).grow
  have ho : (G.upto w0.heap.size (fun _ => 0) (fun _ => 0)).own r = 11 ∧ (G.upto w0.heap.size (fun _ => 0) (fun _ => 0)).fix r = 0 := by
    rw [hx1.own r hrl, hx1.fixe r hrl id]; exact ⟨h1, h2⟩
  have h4' := h4.ext hx1 id id
  have h6' := h6.ext hx1 id
  have hK : RK (G.upto w0.heap.size (fun _ => 0) (fun _ => 0)) w1 f P I := ⟨hof.1, r4, r5, pv, iv, hF, hpz.ext hx1 id, hiz.ext hx1 id⟩
  have h3' := hg1.gheap h3d
  generalize (G.upto w0.heap.size (fun _ => 0) (fun _ => 0)) = G1 at hx1 ho h4' h6' hK hgf
  obtain ⟨w2, st2, hb2, hk2⟩ := cell_store (i := 2) h3' (by simp) (u := .pointer (some ⟨f, 0, none⟩)) rfl
  obtain ⟨w3, st3, hb3, hk3⟩ := cell_store (i := 3) hb2 (by simp) (u := lv) h6.isCell
  have hx3 : Ext (fun x => x = 11) G1 w1 G1 w3 := .on0 (hk2.trans hk3) ho.1 ho.2
  simp (maxSteps := 1000000) (disch := omega) only [↓sy1, sy2, sy3, readOK, sy5, sy6, Nat.reduceEqDiff, ↓reduceIte, sy7, sy8, sy9, sya, oneOf, syb, syc, Nat.reduceAdd, Nat.reduceMul, syd, sye, syf, syg, syh, reduceCtorEq, st2, st3]
  refine ⟨hg1, R_out ⟨G1, ⟨ho.1, ho.2, M, lv, f, lv, P, I, P, I, ?_, h4'.ext hx3 (by omega) (by omega), h5, hK.ext hx3 (by omega), h5, h6'.ext hx3 (by omega), h6'.ext hx3 (by omega)⟩, (hx1.mono (fun _ h => h.elim)).trans hx3, (hk1.trans hk2).trans hk3, hgf⟩⟩
  rw [hb3]; rfl
/-- make, files. -/
theorem mkF_rule {kk : Kont} {e : Env} {w : World} {l : List GOp} {d : Option Nat} {x y : Operand} {n : Nat} {ty : TypeId} (hx : ev e x = .int .i64 n) (hy : ev e y = .int .i64 n) (hn : n ≤ 5000)
    (hh : ∀ v w', Grow w w' → w'.ownsRow w.heap.size 105 6 v n (List.replicate n zfile).flatten → R (symOps Tryz.prog l kk (updO e d v) w')) :
    R (symOps Tryz.prog (⟨d, .hard (H (.makeSlice 100 x y) ty), none⟩ :: l) kk e w) := by
  obtain ⟨i, hi, hz, hsz, hby⟩ := elemRF.hi
  have hr := run_make (P := Tryz.prog) w 100 105 i (.agg zfile.toArray) elemRF.ht hi hz .i64 .i64 n n (by omega) (by omega) (by rw [hby]; omega) (by omega)
  rw [hsz, Int.toNat_natCast] at hr
  have hfl : (List.replicate n zfile).flatten.length = n * 6 := by rw [flat6 (fun cs hc => by rw [(List.mem_replicate.1 hc).2]; rfl), List.length_replicate]
  refine hard_rule (by simp only [execOp, H, hx, hy, Sem.run_bind, hr, Result.andThen_ok]; rfl) (hh _ _ ((Keep.refl _ _).alloc _) ⟨hfl, .inr ⟨w.heap.size, n, _, rfl, Nat.le_refl _, heap_alloc_new w _, Nat.le_refl _, by unfold maxLen; omega, by simp [size_madeCells], ?_⟩⟩)
  rw [made6, List.take_of_length_le (by rw [hfl]; exact Nat.le_refl _)]
set_option maxHeartbeats 1000000 in
theorem rs_new {M : Nat} {P I : List Bool} (h : RM G 8 w M P I) : Calls Tryz.prog 38 #[.pointer (some ⟨M, 0, none⟩)] w (Ret fun v w' => ∃ r G', v = .pointer (some ⟨r, 0, none⟩) ∧ RS G' w' r I.length ∧ Ext0 G w G' w') := by
  have h5 := h.i5
  apply enter38
  apply R_in
  simp (maxSteps := 1000000) (disch := omega) only [↓sy1, sy2, sy3, readOK, sy5, sy6, Nat.reduceEqDiff, ↓reduceIte, sy7, sy8, sy9, sya, oneOf, syb, syc, Nat.reduceAdd, Nat.reduceMul, syd, sye, syf, syg, syh, reduceCtorEq, F38]
  refine call0 (rinodes_spec h) ?_
  rintro _ w1 ⟨rfl, hw1⟩
  subst w1
  simp (maxSteps := 1000000) (disch := omega) only [↓sy1, sy2, sy3, readOK, sy5, sy6, Nat.reduceEqDiff, ↓reduceIte, sy7, sy8, sy9, sya, oneOf, syb, syc, Nat.reduceAdd, Nat.reduceMul, syd, sye, syf, syg, syh, reduceCtorEq]
  refine mkF_rule (n := I.length) (by simp only [upd_at, Nat.reduceEqDiff, reduceIte, ev_tmp, ev_const, List.map_cons, List.map_nil]) (by simp only [upd_at, Nat.reduceEqDiff, reduceIte, ev_tmp, ev_const, List.map_cons, List.map_nil]) (by omega) ?_
  intro lv w1 hg1 hlv
  have hlc : isCell lv = true := (Has.own hlv).isCell
  have hg2 : Grow w1 (w1.alloc (.cells #[.pointer (some ⟨M, 0, none⟩), lv, .pointer none, .slice none 0 0] 102)) := (Keep.refl _ _).alloc _
  have hb2 := heap_alloc_new w1 (.cells #[.pointer (some ⟨M, 0, none⟩), lv, .pointer none, .slice none 0 0] 102)
  have hfl : fillF #[.pointer none, .slice none 0 0, .pointer none, .slice none 0 0] [(0, 1, .pointer (some ⟨M, 0, none⟩)), (1, 1, lv)] = some #[.pointer (some ⟨M, 0, none⟩), lv, .pointer none, .slice none 0 0] := by
    cases lv <;> first | rfl | cases hlc
  have hcl : (Value.agg #[.pointer (some ⟨M, 0, none⟩), lv, .pointer none, .slice none 0 0]).cells = #[.pointer (some ⟨M, 0, none⟩), lv, .pointer none, .slice none 0 0] := rfl
  simp (maxSteps := 1000000) (disch := omega) only [↓sy1, sy2, sy3, readOK, sy5, sy6, Nat.reduceEqDiff, ↓reduceIte, sy7, sy8, sy9, sya, oneOf, syb, syc, Nat.reduceAdd, Nat.reduceMul, syd, sye, syf, syg, syh, reduceCtorEq, fill_gen, hfl, hcl]
  have hx2 : Ext0 G w (G.upto w.heap.size (fun b => if b = w1.heap.size then 11 else 0) (fun _ => 0)) (w1.alloc (.cells #[.pointer (some ⟨M, 0, none⟩), lv, .pointer none, .slice none 0 0] 102)) := .upto (hg1.trans hg2) _ _
  have hs1 := hg1.size
  have ho2 : (G.upto w.heap.size (fun b => if b = w1.heap.size then 11 else 0) (fun _ => 0)).own w1.heap.size = 11 ∧ (G.upto w.heap.size (fun b => if b = w1.heap.size then 11 else 0) (fun _ => 0)).fix w1.heap.size = 0 := by simp [Gh.upto, Nat.not_lt.2 hs1]
  have hrow : ∀ b, lv.ownBlock = some b → (G.upto w.heap.size (fun b => if b = w1.heap.size then 11 else 0) (fun _ => 0)).own b = 0 := fun b hb => by
    have := World.ownsRow.lt hlv b hb
    simp [Gh.upto, Nat.not_lt.2 this.1, show b ≠ w1.heap.size from by omega]
  generalize (G.upto w.heap.size (fun b => if b = w1.heap.size then 11 else 0) (fun _ => 0)) = G2 at hx2 ho2 hrow
  have hsz2 : (w1.alloc (.cells #[.pointer (some ⟨M, 0, none⟩), lv, .pointer none, .slice none 0 0] 102)).heap.size = w1.heap.size + 1 := by simp
  have hlv2 : Has 6 (w1.alloc (.cells #[.pointer (some ⟨M, 0, none⟩), lv, .pointer none, .slice none 0 0] 102)) lv (List.replicate I.length zfile).flatten := (Has.own hlv).grow hg2
  generalize (w1.alloc (.cells #[.pointer (some ⟨M, 0, none⟩), lv, .pointer none, .slice none 0 0] 102)) = w2 at hg2 hb2 hx2 hsz2 hlv2 ⊢
  have hR0 : RS0 G2 w2 w1.heap.size I.length := ⟨ho2.1, ho2.2, M, lv, _, _, P, I, hb2, h.ext hx2 id id, rfl, List.replicate I.length zfile, by simp, ⟨hlv2, fun b hb _ => ⟨by have := (World.ownsRow.lt hlv b hb).2; omega, hrow b hb⟩⟩, fun cs hc => by rw [(List.mem_replicate.1 hc).2]; exact RF.zero _ _⟩
  refine call0 (rs_commit hR0) ?_
  rintro _ w3 ⟨G3, hR3, hx3, hk3, hg3⟩
  simp (maxSteps := 1000000) (disch := omega) only [↓sy1, sy2, sy3, readOK, sy5, sy6, Nat.reduceEqDiff, ↓reduceIte, sy7, sy8, sy9, sya, oneOf, syb, syc, Nat.reduceAdd, Nat.reduceMul, syd, sye, syf, syg, syh, reduceCtorEq]
  refine R_out ⟨w1.heap.size, G3, rfl, hR3, ?_⟩
  have hg03 : Grow w w3 := (hg1.trans hg2).then hk3 (fun b hb hh => by omega)
  exact .ofGrow hg03 (fun b hb => ((hg3 b (by omega)).1).trans (hx2.own b hb)) (fun b hb => ((hg3 b (by omega)).2).trans (hx2.fixe b hb id))
end
end Go.Proofs.YtddiikeepncakaaGreat

/- Inodes on so many pages; the deeds' bytes; what must be whatever is asked. -/
namespace Go.Proofs.YtddiikeepncakaaGreat
open Go
set_option linter.unusedSimpArgs false
open Go.RowKit (intOf)
/-- Whatever is no one's own. -/
abbrev KN : Nat → Prop := fun x => x ≠ 0
theorem KN.of {K : Nat → Prop} (h : ¬ K 0) : ∀ x, K x → KN x := fun x hx hh => h (hh ▸ hx)
/-- A new cache of so many pages. -/
def ic (pages most : Nat) : Csh := Csh.new (Dsk.zero (pages + 101)) 100 most
theorem ic_N (pages most : Nat) : (ic pages most).N = pages := by show (Dsk.zero (pages + 101)).first.length - 100 - 1 = pages; rw [zero_len]; omega
theorem ic_dirty (pages most : Nat) : (ic pages most).dirty = [] := Csh.new_dirty _ _ _
theorem ic_cap (pages most : Nat) : (ic pages most).cap = 100 := rfl
theorem ic_ops (pages most : Nat) : (ic pages most).D.ops.length = 0 := rfl
theorem upto1_false {n N i : Nat} (h : n ≤ i) : (upto1 n N)[i]? ≠ some true := by
  intro hh
  have hlt := (List.getElem?_eq_some_iff.1 hh).1
  rw [upto1_length] at hlt
  rw [upto1_get hlt, decide_eq_false (by omega)] at hh
  cases hh
/-- No inode. -/
theorem fs_none {c : Csh} {k : Nat} (h : Alc c (upto1 (3 + k / 8) c.N) (upto1 1 k)) : FsOk c (upto1 (3 + k / 8) c.N) (upto1 1 k) (fun _ => none) (fun _ => []) := by
  refine ⟨h, ⟨fun i o h => (by cases h), fun i h1 h2 => absurd h2 (upto1_false h1), fun i o n h => (by cases h), fun i j o o' n h => (by cases h), fun i o h => (by cases h), fun n hn hP => ?_⟩, fun i o h => (by cases h), fun i o h => (by cases h)⟩
  rw [upto1_length] at hn
  exact absurd hP (upto1_false hn)
/-- Inodes of a map that was just made, and committed. -/
structure Fresh6 (G : Gh) (w : World) (s m p lq pages k : Nat) (c : Csh) : Prop where
  ino : Ino G 2 7 w s m p lq 0 c (upto1 (3 + k / 8) pages) (upto1 1 k) (fun _ => none) (fun _ => [])
  N : c.N = pages
  cap : c.cap = 100
  dirty : c.dirty = []
  ops : c.D.ops.length ≤ 206
set_option maxHeartbeats 4000000 in
theorem opened_spec {w : World} {pages : Nat} (h1 : 6 ≤ pages) (h2 : pages ≤ 3900) :
    Calls Tryz.prog 12 #[.int .i64 pages] w (Ret fun v w' => ∃ s r m p lq c G', v = .tuple #[.pointer (some ⟨s, 0, none⟩), .pointer (some ⟨r, 0, none⟩), .bool true] ∧ Fresh6 G' w' s m p lq pages 16 c ∧ RS G' w' r 16 ∧ Ext KN G00 w G' w') := by
  have hmay : mayA pages ((16 : Nat) : Int) := by unfold mayA; omega
  apply enter12
  apply R_in
  simp (maxSteps := 1000000) (disch := omega) only [↓sy1, sy2, sy3, readOK, sy5, sy6, Nat.reduceEqDiff, ↓reduceIte, sy7, sy8, sy9, sya, oneOf, syb, syc, Nat.reduceAdd, Nat.reduceMul, syd, sye, syf, syg, syh, reduceCtorEq, F12]
  rw [show (pages : Int) + 101 = ((pages + 101 : Nat) : Int) from by omega]
  refine call0 (new_spec G00 1 (n := pages + 101) (by omega) (by omega)) ?_
  rintro _ w1 ⟨p0, G1, rfl, hp1, hd1, hx1⟩
  simp (maxSteps := 1000000) (disch := omega) only [↓sy1, sy2, sy3, readOK, sy5, sy6, Nat.reduceEqDiff, ↓reduceIte, sy7, sy8, sy9, sya, oneOf, syb, syc, Nat.reduceAdd, Nat.reduceMul, syd, sye, syf, syg, syh, reduceCtorEq]
  refine call0 (open_spec (size := 100) 2 (by omega) hd1 (by omega) (by rw [zero_len]; omega) (.inl (zero_image (by omega)))) ?_
  rintro _ w2 ⟨lq, G2, rfl, hq2, hl2, hx2⟩
  simp (maxSteps := 1000000) (disch := omega) only [↓sy1, sy2, sy3, readOK, sy5, sy6, Nat.reduceEqDiff, ↓reduceIte, sy7, sy8, sy9, sya, oneOf, syb, syc, Nat.reduceAdd, Nat.reduceMul, syd, sye, syf, syg, syh, reduceCtorEq]
  refine call0 (cnew_spec (most := 16) 7 (by omega) (by omega) hl2 (zero_flat _) (zero_calm (by omega)) (by omega) (by omega)) ?_
  rintro _ w3 ⟨p, G3, rfl, hp3, hc3, hx3⟩
  simp (maxSteps := 1000000) (disch := omega) only [↓sy1, sy2, sy3, readOK, sy5, sy6, Nat.reduceEqDiff, ↓reduceIte, sy7, sy8, sy9, sya, oneOf, syb, syc, Nat.reduceAdd, Nat.reduceMul, syd, sye, syf, syg, syh, reduceCtorEq]
  have hN := ic_N pages 16
  have hdr := ic_dirty pages 16
  have hcap := ic_cap pages 16
  have hops := ic_ops pages 16
  have hc3' : CacheS G3 2 7 w3 p lq 0 (ic pages 16) := hc3.s
  generalize ic pages 16 = c0 at hN hdr hcap hops hc3'
  refine call0 (make_ok hc3' (by omega) (k := 16) (by rw [hN]; exact hmay) (by rw [hdr, hcap]; simp)) ?_
  rintro _ w4 ⟨m, G4, c4, rfl, hm4, h4, hst4, hx4⟩
  obtain ⟨t1, t2, t3, t4, t5⟩ := hst4
  rw [← t1] at h4
  simp (maxSteps := 1000000) (disch := omega) only [↓sy1, sy2, sy3, readOK, sy5, sy6, Nat.reduceEqDiff, ↓reduceIte, sy7, sy8, sy9, sya, oneOf, syb, syc, Nat.reduceAdd, Nat.reduceMul, syd, sye, syf, syg, syh, reduceCtorEq]
  refine call0 (inew_spec G4 w4 m) ?_
  rintro _ w5 ⟨s, G5, rfl, hs5, hso5, hx5⟩
  have h5 := h4.ext hx5 id id id
  simp (maxSteps := 1000000) (disch := omega) only [↓sy1, sy2, sy3, readOK, sy5, sy6, Nat.reduceEqDiff, ↓reduceIte, sy7, sy8, sy9, sya, oneOf, syb, syc, Nat.reduceAdd, Nat.reduceMul, syd, sye, syf, syg, syh, reduceCtorEq]
  refine call0 (rmake_spec (N := pages) (k := 16) G5 8 (by omega) hmay) ?_
  rintro _ w6 ⟨r0, G6, rfl, hr6, hx6⟩
  have h6 := h5.ext hx6 id id id
  have hso6 := hso5.ext hx6 id
  simp (maxSteps := 1000000) (disch := omega) only [↓sy1, sy2, sy3, readOK, sy5, sy6, Nat.reduceEqDiff, ↓reduceIte, sy7, sy8, sy9, sya, oneOf, syb, syc, Nat.reduceAdd, Nat.reduceMul, syd, sye, syf, syg, syh, reduceCtorEq, decide_true, not_true_eq_false, decide_false]
  refine call0 (mcommit_ok h6 (by rw [t2]; omega)) ?_
  rintro _ w7 ⟨rfl, G7, hx7, h7⟩
  have hcf := commit_facts h6.1.cache.oks
  obtain ⟨q1, q2, q3, q4, q5⟩ := hcf
  have hso7 := hso6.ext hx7 (by omega)
  have hr7 := hr6.ext hx7 (by omega) (by omega)
  have hfs := (fs_none h6.2).commit h6.1.cache.oks
  simp (maxSteps := 1000000) (disch := omega) only [↓sy1, sy2, sy3, readOK, sy5, sy6, Nat.reduceEqDiff, ↓reduceIte, sy7, sy8, sy9, sya, oneOf, syb, syc, Nat.reduceAdd, Nat.reduceMul, syd, sye, syf, syg, syh, reduceCtorEq, decide_true, not_true_eq_false, decide_false]
  refine call0 (rs_new hr7) ?_
  rintro _ w8 ⟨r, G8, rfl, hR8, hx8⟩
  simp (maxSteps := 1000000) (disch := omega) only [↓sy1, sy2, sy3, readOK, sy5, sy6, Nat.reduceEqDiff, ↓reduceIte, sy7, sy8, sy9, sya, oneOf, syb, syc, Nat.reduceAdd, Nat.reduceMul, syd, sye, syf, syg, syh, reduceCtorEq]
  have hN4 : c4.N = pages := by rw [t1, hN]
  rw [hN4] at h7 hfs
  rw [upto1_length] at hR8 hfs
  refine R_out ⟨s, r, m, p, lq, c4.commit, G8, rfl, ⟨⟨h7.ext hx8 id id id, hso7.ext hx8 id, hfs.1, by rw [upto1_length]; exact hfs.2⟩, by rw [q1, hN4], by rw [q3, t4, hcap], q2, by rw [t2, hops] at q5; exact q5⟩, hR8, ?_⟩
  exact (((((((hx1.mono (fun _ h => h.elim)).trans (hx2.mono (fun _ h => h.elim))).trans (hx3.mono (fun _ h => h.elim))).trans (hx4.mono (KN.of (by omega)))).trans (hx5.mono (fun _ h => h.elim))).trans (hx6.mono (fun _ h => h.elim))).trans (hx7.mono (KN.of (by omega)))).trans (hx8.mono (fun _ h => h.elim))
end Go.Proofs.YtddiikeepncakaaGreat

/- What must be whatever is asked. -/
namespace Go.Proofs.YtddiikeepncakaaGreat
open Go
set_option linter.unusedSimpArgs false
open Go.RowKit (intOf)
/-- A row of one byte. -/
theorem lit1 (G : Gh) (w : World) (x : UInt8) (o : Nat) : ∃ G', HasB (w.alloc (.cells #[.int .u8 (x.toNat : Int)] 5)) (.slice (some ⟨w.heap.size, 0, none⟩) 1 1) [x] ∧ (∀ b, (Value.slice (some ⟨w.heap.size, 0, none⟩) 1 1).ownBlock = some b → b < (w.alloc (.cells #[.int .u8 (x.toNat : Int)] 5)).heap.size ∧ G'.own b = o) ∧ Ext0 G w G' (w.alloc (.cells #[.int .u8 (x.toNat : Int)] 5)) := by
  have hg : Grow w (w.alloc (.cells #[.int .u8 (x.toNat : Int)] 5)) := (Keep.refl _ _).alloc _
  refine ⟨G.upto w.heap.size (fun _ => o) (fun _ => 0), Has.new1, fun b hb => ?_, .upto hg _ _⟩
  have hb' : w.heap.size = b := Option.some.inj hb
  subst hb'
  exact ⟨by simp, (upto_own (Nat.le_refl _)).1⟩
theorem noRoom_no {c : Csh} {free want most : Nat} (h : NoRoom c free want most) (hN : c.N ≤ c.cap) (hf : want ≤ free) : False := by
  rcases h with h | ⟨h, _⟩ <;> omega
/-- Struct of fifteen cells that is kept. -/
theorem store15 {G : Gh} {w : World} {cs : List Value} (hl : cs.length = 15) (hc : ∀ u ∈ cs, isCell u = true) : ∃ w' G', stnF (w.alloc (.cells (Value.agg (Array.replicate 15 (.int .i64 0))).cells 46)) 15 (.pointer (some ⟨w.heap.size, 0, none⟩)) (.agg cs.toArray) = some (undef, w') ∧ w'.heap[w.heap.size]? = some (.cells cs.toArray 46 (0, 0)) ∧ G'.own w.heap.size = 0 ∧ Ext0 G w G' w' := by
  have hg : Grow w (w.alloc (.cells (Value.agg (Array.replicate 15 (.int .i64 0))).cells 46)) := (Keep.refl _ _).alloc _
  obtain ⟨w4, hs4, hb4, hk4⟩ := storeN_cells cs _ _ 0 (heap_alloc_new w (.cells (Value.agg (Array.replicate 15 (.int .i64 0))).cells 46)) (by rw [hl]; simp [Value.cells]) hc
  refine ⟨w4, G.upto w.heap.size (fun _ => 0) (fun _ => 0), ?_, ?_, (upto_own (Nat.le_refl _)).1, .upto (hg.then hk4 (fun b hb hh => by omega)) _ _⟩
  · simp only [stnF, Value.cells, List.size_toArray, hl, if_true]
    exact congrArg (Option.map fun w => (undef, w)) hs4
  · rw [hb4]
    simp only [List.take_zero, List.nil_append]
    rw [List.drop_eq_nil_of_le (by rw [hl]; simp [Value.cells]), List.append_nil]
theorem take15_len (o : Opn) : (o.cells.take 15).length = 15 := by rw [List.length_take, Opn.cells_length]; rfl
theorem take15_cell (o : Opn) : ∀ u ∈ o.cells.take 15, isCell u = true := fun u hu => o.cells_one u (List.mem_of_mem_take hu)
theorem take15_at (o : Opn) {j : Nat} (h : j < 15) : (o.cells.take 15)[j]? = some (.int .i64 (o.cell j)) := by
  rw [List.getElem?_take, if_pos h, o.cells_get (by omega)]
theorem lookC_ok {F : Nat → Option Opn} {k j : Nat} {o : Opn} (h1 : 1 ≤ j) (h2 : j < k) (hF : F j = some o) : lookC F k j = 0 ∧ lookO F k j = o := by
  have hno : ¬ ((j : Int) < 1 ∨ (k : Int) ≤ (j : Int)) := by omega
  refine ⟨?_, ?_⟩
  · unfold lookC
    rw [if_neg hno, Int.toNat_natCast, hF]; rfl
  · unfold lookO
    rw [if_neg hno, Int.toNat_natCast, hF]; rfl
set_option maxRecDepth 20000 in
set_option maxHeartbeats 4000000 in
theorem live6_spec (w : World) : Calls Tryz.prog 9 #[] w (Ret fun v w' => v = .bool true ∧ Grow w w') := by
  apply enter9
  apply R_in
  simp (maxSteps := 1000000) (disch := omega) only [↓sy1, sy2, sy3, readOK, sy5, sy6, Nat.reduceEqDiff, ↓reduceIte, sy7, sy8, sy9, sya, oneOf, syb, syc, Nat.reduceAdd, Nat.reduceMul, syd, sye, syf, syg, syh, reduceCtorEq, F9]
  refine call0 (opened_spec (pages := 40) (by omega) (by omega)) ?_
  rintro _ w1 ⟨s, r, m, p, lq, c, G1, rfl, hf, hR, hx1⟩
  obtain ⟨h1, hN, hcap, hdr, hops⟩ := hf
  rw [show upto1 (3 + 16 / 8) 40 = upto1 5 40 from rfl] at h1
  simp (maxSteps := 1000000) (disch := omega) only [↓sy1, sy2, sy3, readOK, sy5, sy6, Nat.reduceEqDiff, ↓reduceIte, sy7, sy8, sy9, sya, oneOf, syb, syc, Nat.reduceAdd, Nat.reduceMul, syd, sye, syf, syg, syh, reduceCtorEq]
  refine call0 (imake_spec h1 (kd := 1) (md := 420)) ?_
  rintro _ w2 ⟨G2, hx2, hM⟩
  have hmk : mkC 1 420 = 0 := by unfold mkC; rw [if_pos (by omega)]
  have hfI : firstN (upto1 1 16) = 1 := firstN_upto (by omega)
  rcases hM with ⟨h0, _⟩ | ⟨_, rfl, c2, h2, _, hd2⟩ | ⟨_, _, _, hno⟩
  · exact absurd hmk h0
  rotate_left
  · exact (noRoom_no hno (by omega) (by rw [freeN_upto (by omega)]; omega)).elim
  rw [hfI, show (upto1 1 16).set 1 true = upto1 2 16 from upto1_set (by omega)] at h2
  rw [hfI]
  generalize hF2 : upF (fun _ => none) 1 (some (Opn.new (1 : Int).toNat (420 : Int).toNat 1)) = F2 at h2
  generalize upB (fun _ => []) 1 [] = B2 at h2
  have hF21 : F2 1 = some (Opn.new 1 420 1) := by rw [← hF2, upF_same]; rfl
  obtain ⟨G3, hrow3, hown3, hx3⟩ := lit1 G2 w2 97 0
  have h3 := h2.ext hx3 id id id
  have hro3 : RowO (KW 2 7) G3 (w2.alloc (.cells #[.int .u8 ((97 : UInt8).toNat : Int)] 5)) (.slice (some ⟨w2.heap.size, 0, none⟩) 1 1) [97] := ⟨hrow3, fun b hb => ⟨(hown3 b hb).1, by rw [(hown3 b hb).2]; unfold KW; omega⟩⟩
  have h97 : ((97 : UInt8).toNat : Int) = 97 := rfl
  rw [h97] at hx3 h3 hro3
  simp (maxSteps := 1000000) (disch := omega) only [↓sy1, sy2, sy3, readOK, sy5, sy6, Nat.reduceEqDiff, ↓reduceIte, sy7, sy8, sy9, sya, oneOf, syb, syc, Nat.reduceAdd, Nat.reduceMul, syd, sye, syf, syg, syh, reduceCtorEq, fill_one, oneF_int]
  generalize w2.alloc (.cells #[.int .u8 97] 5) = w3 at hx3 h3 hro3 ⊢
  refine call0 (iwrite_file_spec h3 (i := 1) (pos := 5120) hro3 (by simp) (by omega)) ?_
  rintro _ w4 ⟨G4, hx4, hW⟩
  have hlk := lookC_ok (k := 16) (j := 1) (by omega) (by omega) hF21
  have hwc : wrC F2 (upto1 2 16).length 1 5120 [(97 : UInt8)].length = 0 := by
    unfold wrC
    rw [upto1_length, show (1 : Int) = ((1 : Nat) : Int) from rfl, hlk.1, if_neg (by simp), if_neg (by omega), if_neg (by simp)]
  have hneed : needN 5121 = 12 := by decide
  rcases hW with ⟨h0, _⟩ | ⟨_, h0, _⟩ | ⟨_, _, j, o, n, hj, hn, hFo, hT⟩
  · exact absurd hwc h0
  · cases h0
  have hj1 : j = 1 := by omega
  have hn1 : n = 5120 := by omega
  subst hj1; subst hn1
  rw [hF21] at hFo
  have ho := Option.some.inj hFo
  have hos : o.size = 0 := by rw [← ho]; rfl
  rw [hos] at hT
  have hmax : max 0 (5120 + [(97 : UInt8)].length) = 5121 := rfl
  rw [hmax, hneed, show needN 0 = 0 from rfl] at hT
  have hcap2 : c2.cap = c.cap := hd2.cap
  have hN2 := hd2.N
  rcases hT with ⟨rfl, c5, P5, I5, F5, B5, h5, hn5, hI5, ⟨rfl, o5, rfl, rfl, hs5, _, _, _, _, _⟩, _⟩ | ⟨_, _, hno, _⟩
  rotate_left
  · exact (noRoom_no hno (by omega) (by rw [freeN_upto (by omega)]; omega)).elim
  have hF5 : upF F2 1 (some o5) 1 = some o5 := upF_same
  have hlk5 := lookC_ok (k := 16) (j := 1) (by omega) (by omega) hF5
  simp (maxSteps := 1000000) (disch := omega) only [↓sy1, sy2, sy3, readOK, sy5, sy6, Nat.reduceEqDiff, ↓reduceIte, sy7, sy8, sy9, sya, oneOf, syb, syc, Nat.reduceAdd, Nat.reduceMul, syd, sye, syf, syg, syh, reduceCtorEq]
  refine call0 (iget_spec h5 (i := 1)) ?_
  rintro _ w6 ⟨rfl, G6, hx6, h6⟩
  rw [upto1_length, show (1 : Int) = ((1 : Nat) : Int) from rfl, hlk5.1, hlk5.2]
  obtain ⟨w7, G7, st7, hb7, ho7, hx7⟩ := store15 (G := G6) (w := w6) (take15_len o5) (take15_cell o5)
  have h7 := h6.ext hx7 id id id
  simp (maxSteps := 1000000) (disch := omega) only [↓sy1, sy2, sy3, readOK, sy5, sy6, Nat.reduceEqDiff, ↓reduceIte, sy7, sy8, sy9, sya, oneOf, syb, syc, Nat.reduceAdd, Nat.reduceMul, syd, sye, syf, syg, syh, reduceCtorEq, st7]
  refine call0 (ipages_file_spec (ρ := 9) h7 (by omega) (i := 1)) ?_
  rintro _ w8 ⟨u, G8, rfl, hu, _, hx8, h8⟩
  rw [upto1_length, show (1 : Int) = ((1 : Nat) : Int) from rfl, hlk5.1]
  have hpl : (pgB (upF F2 1 (some o5)) 16 ((1 : Nat) : Int)).length = 12 := by
    unfold pgB
    rw [if_neg (by rw [hlk5.1]; simp), hlk5.2, List.length_map, (h8.fs.ok 1 o5 hF5).own_len, hs5, hneed]
  have hlen : ∀ w', lenF w' 0 u = some (.int .i64 12) := fun w' => by
    have := (Has.own hu).lenI w'
    rw [upto1_length] at this
    rw [this]
    exact congrArg (fun n : Nat => some (Value.int .i64 n)) hpl
  have hb8 := hx8.heap hb7 (by rw [ho7]; omega)
  have hc3 : w8.cell? ⟨w6.heap.size, 3, none⟩ = some (.int .i64 5121) := by
    rw [cell_block hb8]
    have := take15_at o5 (j := 3) (by omega)
    rw [show o5.cell 3 = o5.size from rfl, hs5] at this
    simpa using this
  simp (maxSteps := 1000000) (disch := omega) only [↓sy1, sy2, sy3, readOK, sy5, sy6, Nat.reduceEqDiff, ↓reduceIte, sy7, sy8, sy9, sya, oneOf, syb, syc, Nat.reduceAdd, Nat.reduceMul, syd, sye, syf, syg, syh, reduceCtorEq, Int.reduceEq, decide_true, hlen, hc3]
  refine call0 (need_spec (n := 5121)) ?_
  rintro _ w9 ⟨rfl, hw9⟩
  subst w9
  have hnc : needC 5121 = 12 := by
    unfold needC
    rw [if_neg (by omega), show (5121 : Int).toNat = 5121 from rfl, hneed]; rfl
  simp (maxSteps := 1000000) (disch := omega) only [↓sy1, sy2, sy3, readOK, sy5, sy6, Nat.reduceEqDiff, ↓reduceIte, sy7, sy8, sy9, sya, oneOf, syb, syc, Nat.reduceAdd, Nat.reduceMul, syd, sye, syf, syg, syh, reduceCtorEq, hnc, decide_true]
  refine R_out (Ext.toGrow (κ := KN) (G' := G8) ?_ (by simp))
  exact ((((((hx1.trans (hx2.mono (KN.of (by unfold KW; omega)))).trans (hx3.mono (fun _ h => h.elim))).trans (hx4.mono (KN.of (by unfold KW; omega)))).trans (hx6.mono (KN.of (by omega)))).trans (hx7.mono (fun _ h => h.elim))).trans (hx8.mono (KN.of (by omega))))
end Go.Proofs.YtddiikeepncakaaGreat

/- Changes of inodes where there is room; the deeds' bytes. -/
namespace Go.Proofs.YtddiikeepncakaaGreat
open Go
set_option linter.unusedSimpArgs false
open Go.RowKit (intOf)
/-- What a file's bytes are behind a Write. -/
def wrD (b : List UInt8) (pos : Nat) (d : List UInt8) : List UInt8 := if d = [] then b else wrB b pos d
theorem wrD_new (d : List UInt8) : wrD [] 0 d = d := by
  unfold wrD
  split
  · rename_i h; rw [h]
  · have hl : (rszB [] (max 0 (0 + d.length))).length = d.length := by rw [rszB_length]; omega
    simp only [wrB, patch, List.take_zero, List.nil_append, Nat.zero_add, List.length_nil]
    rw [List.drop_eq_nil_of_le (by rw [Nat.zero_add] at hl; omega), List.append_nil]
section
variable {G : Gh} {κ μ m p lq came s j : Nat} {w : World} {c : Csh} {P I : List Bool} {F : Nat → Option Opn} {B : Nat → List UInt8} {o : Opn} {bv : Value} {d : List UInt8}
theorem Ino.blen (h : Ino G κ μ w s m p lq came c P I F B) (hF : F j = some o) : (B j).length = o.size ∧ o.size ≤ 70656 ∧ 1 ≤ j ∧ j < I.length := ⟨(h.fs.recs j o hF).len, (h.fs.ok j o hF).size, (h.fs.i_lt hF).1, (h.fs.i_lt hF).2.1⟩
theorem write_ok (h : Ino G κ μ w s m p lq came c P I F B) (hN : c.N ≤ c.cap) (hF : F j = some o) {pos : Nat} (hd : RowO (KW κ μ) G w bv d) (hsz : pos + d.length ≤ 70656) (hroom : needN (max (B j).length (pos + d.length)) ≤ freeN P + needN (B j).length) :
    Calls Tryz.prog 15 #[.pointer (some ⟨s, 0, none⟩), .int .i64 j, .int .i64 pos, bv] w (Ret fun v w' => v = .int .i64 0 ∧ ∃ G' c' P' o', Ext (KW κ μ) G w G' w' ∧ Ino G' κ μ w' s m p lq came c' P' I (upF F j (some o')) (upB B j (wrD (B j) pos d)) ∧ Near c c' ∧
      o'.kind = o.kind ∧ o'.mode = o.mode ∧ o'.links = o.links ∧ freeN P' + needN (wrD (B j) pos d).length = freeN P + needN (B j).length) := by
  obtain ⟨b1, b2, b3, b4⟩ := h.blen hF
  have hlk := lookC_ok b3 b4 hF
  have hwc : wrC F I.length j pos d.length = 0 := by
    unfold wrC
    rw [hlk.1, if_neg (by simp), if_neg (by omega), if_neg (by omega)]
  refine Ret.mono (iwrite_file_spec h hd (by omega) (by omega)) ?_
  rintro v w' ⟨G', hx, hR⟩
  rcases hR with ⟨h0, _⟩ | ⟨_, hd0, rfl, h'⟩ | ⟨_, hd0, j', o', n, hj, hn, hFo, hT⟩
  · exact absurd hwc h0
  · refine ⟨rfl, G', c, P, o, hx, ?_, .refl c, rfl, rfl, rfl, ?_⟩
    · rw [wrD, if_pos hd0, upB_self, ← hF, upF_self]; exact h'
    · rw [wrD, if_pos hd0]
  · have hjj : j' = j := by omega
    have hnn : n = pos := by omega
    subst hjj; subst hnn
    rw [hF] at hFo
    cases hFo
    have hwl : (wrD (B j') n d).length = max o.size (n + d.length) := by rw [wrD, if_neg hd0, wrB_length, b1]
    rw [b1] at hroom
    rcases hT with ⟨rfl, c5, P5, I5, F5, B5, h5, hn5, hI5, ⟨rfl, o5, rfl, rfl, hs5, hk5, hm5, hl5, hf5, _⟩, _⟩ | ⟨_, _, hno, _⟩
    · refine ⟨rfl, G', c5, P5, o5, hx, ?_, hn5, hk5, hm5, hl5, by rw [hwl, b1]; exact hf5⟩
      rw [wrD, if_neg hd0]; exact h5
    · exact (noRoom_no hno hN hroom).elim
theorem mk_ok (h : Ino G κ μ w s m p lq came c P I F B) (hN : c.N ≤ c.cap) (hI : firstN I < I.length) {kd md : Nat} (hk : 1 ≤ kd ∧ kd ≤ 3) (hm : md ≤ 4095) :
    Calls Tryz.prog 13 #[.pointer (some ⟨s, 0, none⟩), .int .i64 kd, .int .i64 md] w (Ret fun v w' => v = .tuple #[.int .i64 (firstN I : Nat), .int .i64 0] ∧ ∃ G' c', Ext (KW κ μ) G w G' w' ∧ Ino G' κ μ w' s m p lq came c' P (I.set (firstN I) true) (upF F (firstN I) (some (Opn.new kd md (firstN I)))) (upB B (firstN I) []) ∧ Near c c') := by
  have hmk : mkC kd md = 0 := by unfold mkC; rw [if_pos (by omega)]
  refine Ret.mono (imake_spec h) ?_
  rintro v w' ⟨G', hx, hR⟩
  rcases hR with ⟨h0, _⟩ | ⟨_, rfl, c2, h2, _, hd2⟩ | ⟨_, _, _, hno⟩
  · exact absurd hmk h0
  · exact ⟨rfl, G', c2, hx, h2, hd2.near⟩
  · have := firstN_at hI
    have h1 := freeN_on this
    exact (noRoom_no hno hN (by omega)).elim
end
/-- A deed. -/
structure Deed6 where
  kind : Int
  i : Int
  at_ : Int
  n : Int
  node : Int
  mode : Int
  links : Int
  byte : UInt8
def Deed6.cells (x : Deed6) : List Value := [.int .i64 x.kind, .int .i64 x.i, .int .i64 x.at_, .int .i64 x.n, .int .i64 x.node, .int .i64 x.mode, .int .i64 x.links, .int .u8 (x.byte.toNat : Int)]
def Deed6.val (x : Deed6) : Value := .agg x.cells.toArray
def Deed6.len (x : Deed6) : Nat := if x.n < 0 ∨ 8000 < x.n then 8000 else x.n.toNat
def Deed6.data (x : Deed6) : List UInt8 := (List.range x.len).map fun i => x.byte + UInt8.ofNat (i % 251)
theorem Deed6.data_length (x : Deed6) : x.data.length = x.len := by simp [Deed6.data]
theorem Deed6.len_le (x : Deed6) : x.len ≤ 8000 := by unfold Deed6.len; split <;> omega
/-- The cells of a deed in a block. -/
theorem deed_cell {w : World} {b j : Nat} {x : Deed6} {t : TypeId} (h : w.heap[b]? = some (.cells x.cells.toArray t (0, 0))) : w.cell? ⟨b, j, none⟩ = x.cells[j]? := by rw [cell_block h]; simp
theorem byte_sum (x : UInt8) {i : Nat} (h : i < 251) : ((x.toNat : Int) + ((i : Nat) : Int)) % 256 = ((x + UInt8.ofNat i).toNat : Int) := by
  rw [UInt8.toNat_add, UInt8.toNat_ofNat', Nat.mod_eq_of_lt (show i < 2 ^ 8 by omega)]
  omega
set_option maxHeartbeats 2000000 in
theorem d6bytes_spec {w : World} (x : Deed6) :
    Calls Tryz.prog 14 #[x.val] w (Ret fun v w' => w'.ownsRow w.heap.size 5 1 v x.data.length (bs x.data) ∧ Grow w w') := by
  have hcells : x.val.cells = x.cells.toArray := rfl
  have hb0 := heap_alloc_new w (.cells x.cells.toArray 27)
  have hg0 : Grow w (w.alloc (.cells x.cells.toArray 27)) := (Keep.refl _ _).alloc _
  apply enter14
  apply R_in
  simp (maxSteps := 1000000) (disch := omega) only [↓sy1, sy2, sy3, readOK, sy5, sy6, Nat.reduceEqDiff, ↓reduceIte, sy7, sy8, sy9, sya, oneOf, syb, syc, Nat.reduceAdd, Nat.reduceMul, syd, sye, syf, syg, syh, reduceCtorEq, F14, hcells]
  generalize w.alloc (.cells x.cells.toArray 27) = w0 at hb0 hg0 ⊢
  have hB0 : w.heap.size < w0.heap.size := (Array.getElem?_eq_some_iff.1 hb0).1
  have hc3 : w0.cell? ⟨w.heap.size, 3, none⟩ = some (.int .i64 x.n) := by rw [deed_cell hb0]; rfl
  have hc7 : ∀ {w'}, Grow w0 w' → w'.cell? ⟨w.heap.size, 7, none⟩ = some (.int .u8 (x.byte.toNat : Int)) := fun hg => by rw [deed_cell (hg.gheap hb0)]; rfl
  have hlen := x.data_length
  have hle := x.len_le
  have hget : ∀ {i : Nat}, i < x.len → x.data[i]? = some (x.byte + UInt8.ofNat (i % 251)) := fun {i} hi => by simp [Deed6.data, hi]
  have fin : ∀ (e : Env), e 3 = .int .i64 x.len → e 1 = .pointer (some ⟨w.heap.size, 0, none⟩) → R (symS 31 Tryz.prog ((SCode.ops [⟨some 14, .mv (.tmp 3), none⟩, ⟨some 15, .hard (H (.makeSlice 36 (.tmp 14) (.tmp 14)) 36), none⟩, ⟨some 4, .mv (.tmp 15), none⟩]).seq
      (((SCode.ops [⟨some 5, .mv (.const (.int .i64 0)), none⟩]).seq (SCode.block 0 (.loop F14_L0))).seq ((SCode.ops [⟨some 30, .mv (.tmp 4), none⟩, ⟨some 2, .mv (.tmp 30), none⟩]).seq SCode.ret)))
      ⟨fun e w' => w'.ownsRow w.heap.size 5 1 (e 2) x.data.length (bs x.data) ∧ Grow w w', fun _ _ _ => False, fun e w' => w'.ownsRow w.heap.size 5 1 (e 2) x.data.length (bs x.data) ∧ Grow w w', NoPanic⟩ e w0) := by
    intro e e3 e1
    simp (maxSteps := 1000000) (disch := omega) only [↓sy1, sy2, sy3, readOK, sy5, sy6, Nat.reduceEqDiff, ↓reduceIte, sy7, sy8, sy9, sya, oneOf, syb, syc, Nat.reduceAdd, Nat.reduceMul, syd, sye, syf, syg, syh, reduceCtorEq, e3]
    refine mk_rule elemB (kx := .i64) (ky := .i64) (a := x.len) (c := x.len) (by simp only [upd_at, Nat.reduceEqDiff, reduceIte, ev_tmp, ev_const, List.map_cons, List.map_nil, e3]) (by simp only [upd_at, Nat.reduceEqDiff, reduceIte, ev_tmp, ev_const, List.map_cons, List.map_nil, e3]) (by omega) (by omega) (by omega) (by omega) rfl ?_
    have hg1 : Grow w0 (w0.alloc (.cells (Array.replicate (x.len : Int).toNat (.int .u8 0)) 5)) := (Keep.refl _ _).alloc _
    have ho1 := own_made w0 w0.heap.size (Nat.le_refl _) 5 (x.len : Int).toNat (by rw [Int.toNat_natCast]; omega) (.int .u8 0)
    generalize w0.alloc (.cells (Array.replicate (x.len : Int).toNat (.int .u8 0)) 5) = w1 at hg1 ho1 ⊢
    rw [Int.toNat_natCast] at ho1 ⊢
    generalize (Value.slice (some ⟨w0.heap.size, 0, none⟩) x.len x.len) = bv at ho1 ⊢
    simp (maxSteps := 1000000) (disch := omega) only [↓sy1, sy2, sy3, readOK, sy5, sy6, Nat.reduceEqDiff, ↓reduceIte, sy7, sy8, sy9, sya, oneOf, syb, syc, Nat.reduceAdd, Nat.reduceMul, syd, sye, syf, syg, syh, reduceCtorEq]
    refine loop_rule (fun e w' => ∃ k : Nat, k ≤ x.len ∧ e 5 = .int .i64 k ∧ e 4 = bv ∧ e 3 = .int .i64 x.len ∧ e 1 = .pointer (some ⟨w.heap.size, 0, none⟩) ∧ Grow w0 w' ∧
        w'.ownsRow w0.heap.size 5 1 bv x.len (bs (x.data.take k) ++ List.replicate (x.len - k) (.int .u8 0))) (fun e _ => x.len - (intOf (e 5)).toNat)
      ⟨0, by omega, by simp [upd, updO, ev], by simp [upd, updO, ev], by simp [upd, updO, ev, e3], by simp [upd, updO, ev, e1], hg1, by simpa [bs] using ho1⟩ ?_
    clear e3 e1
    rintro e w3 ⟨k, hk, e5, e4, e3, e1, hg3, ho3⟩
    by_cases hlt : k < x.len
    · obtain ⟨a, w4, ha, hst, ho4, hk4, hbk⟩ := own_store ho3 hlt (u := .int .u8 ((x.byte + UInt8.ofNat (k % 251)).toNat : Int)) rfl
      have hrem : ((k : Nat) : Int).tmod 251 = ((k % 251 : Nat) : Int) := rfl
      simp (maxSteps := 1000000) (disch := omega) only [↓sy1, sy2, sy3, readOK, sy5, sy6, Nat.reduceEqDiff, ↓reduceIte, sy7, sy8, sy9, sya, oneOf, syb, syc, Nat.reduceAdd, Nat.reduceMul, syd, sye, syf, syg, syh, reduceCtorEq, F14_L0, e5, e4, e3, e1, Int.ofNat_lt, hlt, decide_true, hc7 hg3, hrem, show ((k % 251 : Nat) : Int) % 256 = ((k % 251 : Nat) : Int) from by omega, byte_sum x.byte (i := k % 251) (by omega), ha, hst]
      refine R_out ⟨⟨k + 1, by omega, rfl, hg3.then hk4 (fun b hb h => by have := (World.ownsRow.lt ho3 b h).1; omega), ?_⟩, by simp only [intOf]; omega⟩
      have htk : (bs (x.data.take k)).length = k := by rw [bs_length, List.length_take, hlen]; omega
      have : (bs (x.data.take k) ++ List.replicate (x.len - k) (Value.int .u8 0)).set k (.int .u8 ((x.byte + UInt8.ofNat (k % 251)).toNat : Int)) = bs (x.data.take (k + 1)) ++ List.replicate (x.len - (k + 1)) (.int .u8 0) := by
        rw [List.set_append_right _ _ (by omega), htk, Nat.sub_self, show x.len - k = (x.len - (k + 1)) + 1 from by omega, List.replicate_succ, List.set_cons_zero, List.take_add_one, hget hlt]
        simp [bs]
      rw [this] at ho4; exact ho4
    · have hke : k = x.len := by omega
      subst hke
      simp (maxSteps := 1000000) (disch := omega) only [↓sy1, sy2, sy3, readOK, sy5, sy6, Nat.reduceEqDiff, ↓reduceIte, sy7, sy8, sy9, sya, oneOf, syb, syc, Nat.reduceAdd, Nat.reduceMul, syd, sye, syf, syg, syh, reduceCtorEq, F14_L0, e5, e4, e3, e1, Int.ofNat_lt, hlt, decide_false]
      refine R_out ⟨?_, hg0.trans hg3⟩
      rw [← hlen, List.take_length, Nat.sub_self] at ho3
      rw [List.replicate_zero, List.append_nil] at ho3
      exact own_base ho3 (by omega)
  by_cases h0 : x.n < 0
  · have hl : x.len = 8000 := if_pos (.inl h0)
    simp (maxSteps := 1000000) (disch := omega) only [↓sy1, sy2, sy3, readOK, sy5, sy6, Nat.reduceEqDiff, ↓reduceIte, sy7, sy8, sy9, sya, oneOf, syb, syc, Nat.reduceAdd, Nat.reduceMul, syd, sye, syf, syg, syh, reduceCtorEq, hc3, h0, decide_true]
    exact fin _ (by simp only [upd, hl]; rfl) (by simp only [upd]; rfl)
  by_cases h1 : 8000 < x.n
  · have hl : x.len = 8000 := if_pos (.inr h1)
    simp (maxSteps := 1000000) (disch := omega) only [↓sy1, sy2, sy3, readOK, sy5, sy6, Nat.reduceEqDiff, ↓reduceIte, sy7, sy8, sy9, sya, oneOf, syb, syc, Nat.reduceAdd, Nat.reduceMul, syd, sye, syf, syg, syh, reduceCtorEq, hc3, h0, h1, decide_true, decide_false]
    exact fin _ (by simp only [upd, hl]; rfl) (by simp only [upd]; rfl)
  · have hl : x.len = x.n.toNat := if_neg (by omega)
    have hn : x.n = ((x.len : Nat) : Int) := by omega
    simp (maxSteps := 1000000) (disch := omega) only [↓sy1, sy2, sy3, readOK, sy5, sy6, Nat.reduceEqDiff, ↓reduceIte, sy7, sy8, sy9, sya, oneOf, syb, syc, Nat.reduceAdd, Nat.reduceMul, syd, sye, syf, syg, syh, reduceCtorEq, hc3, h0, h1, decide_false]
    exact fin _ (by simp only [upd]; rw [← hn]; rfl) (by simp only [upd]; rfl)
end Go.Proofs.YtddiikeepncakaaGreat

/- What is set is told, and the bytes stay. -/
namespace Go.Proofs.YtddiikeepncakaaGreat
open Go
set_option linter.unusedSimpArgs false
open Go.RowKit (intOf)
/-- A deed in a block that stays. -/
structure DeedAt (G : Gh) (w : World) (b : Nat) (x : Deed6) : Prop where
  at_ : w.heap[b]? = some (.cells x.cells.toArray 27 (0, 0))
  own : G.own b = 0
section
variable {K : Nat → Prop} {G G' : Gh} {w w' : World} {b : Nat} {x : Deed6}
theorem DeedAt.ext (h : DeedAt G w b x) (hx : Ext K G w G' w') (h0 : ¬ K 0) : DeedAt G' w' b x := ⟨hx.heap h.at_ (by rw [h.own]; exact h0), by rw [hx.own b (hx.lt h.at_)]; exact h.own⟩
theorem DeedAt.grow (h : DeedAt G w b x) (hg : Grow w w') : DeedAt G w' b x := ⟨hg.gheap h.at_, h.own⟩
theorem DeedAt.cell (h : DeedAt G w b x) (j : Nat) : w.cell? ⟨b, j, none⟩ = x.cells[j]? := deed_cell h.at_
theorem DeedAt.load (h : DeedAt G w b x) : loadN w ⟨b, 0, none⟩ 0 8 = some x.cells := by
  rw [loadN_cells (o := 0) h.at_ 8 0 (by simp [Deed6.cells])]
  rfl
theorem DeedAt.new (w : World) (x : Deed6) : DeedAt G00 (w.alloc (.cells x.cells.toArray 27)) w.heap.size x := ⟨heap_alloc_new w _, rfl⟩
end
/-- A row of the law's own. -/
theorem fresh_row {G : Gh} {w w' : World} {v : Value} {l : List UInt8} (ho : w'.ownsRow w.heap.size 5 1 v l.length (bs l)) (hg : Grow w w') : ∃ G', Ext0 G w G' w' ∧ RowO (KW 2 7) G' w' v l :=
  ⟨G.upto w.heap.size (fun _ => 9) (fun _ => 0), .upto hg _ _, Has.own ho, fun b hb => ⟨(World.ownsRow.lt ho b hb).2, by rw [(upto_own (World.ownsRow.lt ho b hb).1).1]; unfold KW; omega⟩⟩
theorem read_row {G : Gh} {w : World} {B : Nat} {v : Value} {l : List UInt8} (ho : w.ownsRow B 5 1 v l.length (bs l)) (hr : OwnR 9 G v) : RowO (KW 2 7) G w v l :=
  ⟨Has.own ho, fun b hb => ⟨(World.ownsRow.lt ho b hb).2, by rw [(hr b hb).1]; unfold KW; omega⟩⟩
theorem rdB_all {F : Nat → Option Opn} {B : Nat → List UInt8} {k j : Nat} {o : Opn} (h1 : 1 ≤ j) (h2 : j < k) (hF : F j = some o) (hl : (B j).length ≤ 70656) : rdC F k j 0 70656 = 0 ∧ rdB F B k j 0 70656 = B j := by
  have hlk := lookC_ok h1 h2 hF
  have hc : rdC F k j 0 70656 = 0 := by unfold rdC; rw [hlk.1, if_neg (by simp), if_neg (by omega)]
  refine ⟨hc, ?_⟩
  unfold rdB
  rw [if_neg (by rw [hc]; simp)]
  simp only [Int.toNat_natCast]
  rw [show (0 : Int).toNat = 0 from rfl, List.drop_zero, List.take_of_length_le (by rw [show (70656 : Int).toNat = 70656 from rfl]; exact hl)]
end Go.Proofs.YtddiikeepncakaaGreat

/- A file that is cut and grows again reads as 0 there. -/
namespace Go.Proofs.YtddiikeepncakaaGreat
open Go
set_option linter.unusedSimpArgs false
open Go.RowKit (intOf)
theorem needN_le {n k : Nat} (h : n ≤ 512 * k) (hk : k ≤ 80) : needN n ≤ k + 1 := by unfold needN pagesN; split <;> omega
end Go.Proofs.YtddiikeepncakaaGreat

/- The reference's log: its head is written, pages are brought home. -/
namespace Go.Proofs.YtddiikeepncakaaGreat
open Go
set_option linter.unusedSimpArgs false
open Go.RowKit (intOf)
end Go.Proofs.YtddiikeepncakaaGreat

/- The reference's Commit: the same answer, the same disk. -/
namespace Go.Proofs.YtddiikeepncakaaGreat
open Go
set_option linter.unusedSimpArgs false
open Go.RowKit (intOf)
/-- A part of a row. -/
theorem Has.slcToK {k : Nat} {w : World} {v : Value} {xs : List Value} (h : Has k w v xs) {m : Nat} (hm : m * k ≤ xs.length) (hk : 0 < k) :
    ∃ v', slcF k v none (some (.int .i64 m)) none = some v' ∧ Has k w v' (xs.take (m * k)) := by
  rcases h with ⟨b, o, n, c, rfl, h1, h2, h3⟩ | ⟨rfl, rfl⟩
  · have hmn : m ≤ n := Nat.le_of_mul_le_mul_right (h1 ▸ hm) hk
    refine ⟨.slice (some ⟨b, o, none⟩) m c, ?_, .inl ⟨b, o, m, c, rfl, by rw [List.length_take]; omega, by omega, fun j u hj => ?_⟩⟩
    · simp only [slcF, slcV, bndV]
      rw [if_pos ⟨by omega, by omega⟩]
      simp [add_lit]
    · rw [List.getElem?_take] at hj
      split at hj
      · exact h3 j u hj
      · cases hj
  · have hm0 : m = 0 := by
      rcases Nat.eq_zero_or_pos m with h | h
      · exact h
      · have := Nat.mul_pos h hk; simp at hm; omega
    subst hm0
    exact ⟨.slice none 0 0, by simp [slcF, slcV, bndV], by simpa using Has.nil k w⟩
end Go.Proofs.YtddiikeepncakaaGreat

/- Bytes that are written in pieces, in any order, are as if they were written whole. -/
namespace Go.Proofs.YtddiikeepncakaaGreat
open Go
set_option linter.unusedSimpArgs false
open Go.RowKit (intOf)
theorem wrD_length (b : List UInt8) (pos : Nat) (d : List UInt8) : (wrD b pos d).length = if d = [] then b.length else max b.length (pos + d.length) := by
  unfold wrD
  split
  · rfl
  · exact wrB_length b pos d
theorem pieces1 {d : List UInt8} {k : Nat} (hk : k ≤ d.length) : wrD (wrD [] k (d.drop k)) 0 (d.take k) = d := by
  by_cases hd : d.drop k = []
  · have h0 : d.take k = d := by
      have := List.take_append_drop k d
      rw [hd, List.append_nil] at this; exact this
    rw [hd, h0, show wrD [] k [] = [] from rfl, wrD_new]
  have hw : wrD [] k (d.drop k) = List.replicate k 0 ++ d.drop k := by
    rw [wrD, if_neg hd, wrB, patch, rszB]
    simp only [List.take_nil, List.nil_append, List.length_nil, Nat.zero_max, List.length_drop]
    rw [show k + (d.length - k) - 0 = k + (d.length - k) from rfl, List.take_replicate, List.drop_replicate, Nat.sub_self, Nat.min_eq_left (by omega)]
    simp
  rw [hw]
  by_cases ht : d.take k = []
  · rw [ht]
    have : k = 0 := by
      rcases Nat.eq_zero_or_pos k with h | h
      · exact h
      · have h1 := congrArg List.length ht
        have h2 : d ≠ [] := fun hh => hd (by rw [hh]; simp)
        have h3 := List.length_pos_iff.2 h2
        rw [List.length_take, List.length_nil] at h1
        omega
    subst this
    simp [wrD]
  · rw [wrD, if_neg ht, wrB, patch, rszB]
    simp only [List.length_append, List.length_replicate, List.length_drop, List.length_take, Nat.zero_add, List.take_zero, List.nil_append]
    rw [show max (k + (d.length - k)) (min k d.length) = k + (d.length - k) from by omega, show k + (d.length - k) - (k + (d.length - k)) = 0 from by omega, List.replicate_zero, List.append_nil,
      List.take_of_length_le (l := List.replicate k 0 ++ d.drop k) (by rw [List.length_append, List.length_replicate, List.length_drop]; omega), show min k d.length = k from by omega, List.drop_left' (l₁ := List.replicate k (0 : UInt8)) List.length_replicate, List.take_append_drop]
theorem pieces2 {d : List UInt8} {k : Nat} (hk : k ≤ d.length) : wrD (wrD [] 0 (d.take k)) k (d.drop k) = d := by
  rw [wrD_new]
  by_cases hd : d.drop k = []
  · have h0 : d.take k = d := by
      have := List.take_append_drop k d
      rw [hd, List.append_nil] at this; exact this
    rw [hd, h0]; rfl
  · rw [wrD, if_neg hd, wrB, patch, rszB]
    simp only [List.length_drop, List.length_take]
    have hl : (d.take k).length = k := by rw [List.length_take]; omega
    have hz : (d.take k ++ List.replicate (k + (d.length - k) - k) 0).drop (k + (d.length - k)) = [] := List.drop_eq_nil_of_le (by rw [List.length_append, List.length_replicate, hl]; omega)
    rw [show min k d.length = k from by omega, show max k (k + (d.length - k)) = k + (d.length - k) from by omega, List.take_of_length_le (l := d.take k) (by omega), List.take_left' hl,
      hz, List.append_nil, List.take_append_drop]
section
variable {K : Nat → Prop} {G : Gh} {w : World} {v : Value} {l : List UInt8}
theorem RowO.slcTo (h : RowO K G w v l) {m : Nat} (hm : m ≤ l.length) : ∃ v', slcF 1 v none (some (.int .i64 m)) none = some v' ∧ RowO K G w v' (l.take m) := by
  obtain ⟨h1, h2⟩ := h
  have hd : bs (l.take m) = (bs l).take (m * 1) := by simp [bs, List.map_take]
  obtain ⟨v', h3, h4⟩ := Has.slcToK h1 (m := m) (by rw [bs_length]; omega) (by omega)
  refine ⟨v', h3, by show Has 1 w v' (bs (l.take m)); rw [hd]; exact h4, fun b hb => h2 b ?_⟩
  rcases h1 with ⟨b0, o0, n0, c0, rfl, _, _, _⟩ | ⟨_, rfl⟩
  · simp only [slcF, slcV, bndV, Option.isSome_none, Bool.false_eq_true, if_false] at h3
    split at h3
    · cases h3
    · cases h3
      rw [← hb]
      split <;> first | rfl | (simp [add_lit]; rfl)
  · simp only [slcF, slcV, bndV, Option.isSome_none, Bool.false_eq_true, if_false] at h3
    split at h3
    · cases h3
    · cases h3
      rw [← hb]
      split <;> first | rfl | (simp [add_lit]; rfl)
end
theorem write_ok' {G : Gh} {κ μ m p lq came s j : Nat} {w : World} {c : Csh} {P I : List Bool} {F : Nat → Option Opn} {B : Nat → List UInt8} {o : Opn} {bv : Value} {d : List UInt8} (h : Ino G κ μ w s m p lq came c P I F B) (hN : c.N ≤ c.cap) (hF : F j = some o) {pos : Nat} {pi : Int} (hpi : pi = pos) (hd : RowO (KW κ μ) G w bv d) (hsz : pos + d.length ≤ 70656) (hroom : needN (max (B j).length (pos + d.length)) ≤ freeN P + needN (B j).length) :
    Calls Tryz.prog 15 #[.pointer (some ⟨s, 0, none⟩), .int .i64 j, .int .i64 pi, bv] w (Ret fun v w' => v = .int .i64 0 ∧ ∃ G' c' P' o', Ext (KW κ μ) G w G' w' ∧ Ino G' κ μ w' s m p lq came c' P' I (upF F j (some o')) (upB B j (wrD (B j) pos d)) ∧ Near c c' ∧
      o'.kind = o.kind ∧ o'.mode = o.mode ∧ o'.links = o.links ∧ freeN P' + needN (wrD (B j) pos d).length = freeN P + needN (B j).length) := by
  subst hpi
  exact write_ok h hN hF hd hsz hroom
set_option maxRecDepth 20000 in
set_option maxHeartbeats 8000000 in
theorem inodePieces_walk {w : World} (x : Deed6) {cut : Nat} (hc : cut < 65536) (t : Bool) : Calls Tryz.prog 4 #[x.val, .int .u16 cut, .bool t] w (Ret fun v w' => v = .bool true ∧ Grow w w') := by
  have hcells : x.val.cells = x.cells.toArray := rfl
  have hd0 := DeedAt.new w x
  have hg0 : Grow w (w.alloc (.cells x.cells.toArray 27)) := (Keep.refl _ _).alloc _
  apply enter4
  apply R_in
  simp (maxSteps := 1000000) (disch := omega) only [↓sy1, sy2, sy3, readOK, sy5, sy6, Nat.reduceEqDiff, ↓reduceIte, sy7, sy8, sy9, sya, oneOf, syb, syc, Nat.reduceAdd, Nat.reduceMul, syd, sye, syf, syg, syh, reduceCtorEq, F4, hcells]
  generalize w.alloc (.cells x.cells.toArray 27) = w0 at hd0 hg0 ⊢
  generalize hbX : w.heap.size = bX at hd0 ⊢
  refine call0 (opened_spec (pages := 90) (by omega) (by omega)) ?_
  rintro _ w1 ⟨s, r, m, p, lq, c, G1, rfl, hf, hR, hx1⟩
  obtain ⟨h1, hN, hcap, hdr, hops⟩ := hf
  rw [show upto1 (3 + 16 / 8) 90 = upto1 5 90 from rfl] at h1
  have hd1 := hd0.ext hx1 (by simp)
  simp (maxSteps := 1000000) (disch := omega) only [↓sy1, sy2, sy3, readOK, sy5, sy6, Nat.reduceEqDiff, ↓reduceIte, sy7, sy8, sy9, sya, oneOf, syb, syc, Nat.reduceAdd, Nat.reduceMul, syd, sye, syf, syg, syh, reduceCtorEq]
  refine call0 (live6_spec w1) ?_
  rintro _ w2 ⟨rfl, hg2⟩
  have h2 := h1.grow hg2
  have hd2 := hd1.grow hg2
  have hx2 := hx1.trans (.grow hg2)
  have hfI : firstN (upto1 1 16) = 1 := firstN_upto (by omega)
  have hfJ : firstN (upto1 2 16) = 2 := firstN_upto (by omega)
  simp (maxSteps := 1000000) (disch := omega) only [↓sy1, sy2, sy3, readOK, sy5, sy6, Nat.reduceEqDiff, ↓reduceIte, sy7, sy8, sy9, sya, oneOf, syb, syc, Nat.reduceAdd, Nat.reduceMul, syd, sye, syf, syg, syh, reduceCtorEq]
  refine call0 (mk_ok h2 (by omega) (by rw [hfI, upto1_length]; omega) (kd := 1) (md := 420) (by omega) (by omega)) ?_
  rintro _ w3 ⟨rfl, G3, c3, hx3, h3, hn3⟩
  have hd3 := hd2.ext hx3 (by unfold KW; omega)
  rw [hfI, show (upto1 1 16).set 1 true = upto1 2 16 from upto1_set (by omega)] at h3
  rw [hfI]
  generalize hF3 : upF (fun _ => none) 1 (some (Opn.new 1 420 1)) = F3 at h3
  generalize hB3 : upB (fun _ => []) 1 [] = B3 at h3
  have hF31 : F3 1 = some (Opn.new 1 420 1) := by rw [← hF3, upF_same]
  have hB31 : B3 1 = [] := by rw [← hB3, upB_same]
  have hN3 : c3.N ≤ c3.cap := by rw [hn3.1, hn3.cap]; omega
  simp (maxSteps := 1000000) (disch := omega) only [↓sy1, sy2, sy3, readOK, sy5, sy6, Nat.reduceEqDiff, ↓reduceIte, sy7, sy8, sy9, sya, oneOf, syb, syc, Nat.reduceAdd, Nat.reduceMul, syd, sye, syf, syg, syh, reduceCtorEq]
  refine call0 (mk_ok h3 hN3 (by rw [hfJ, upto1_length]; omega) (kd := 1) (md := 420) (by omega) (by omega)) ?_
  rintro _ w4 ⟨rfl, G4, c4, hx4, h4, hn4⟩
  have hd4 := hd3.ext hx4 (by unfold KW; omega)
  rw [hfJ, show (upto1 2 16).set 2 true = upto1 3 16 from upto1_set (by omega)] at h4
  rw [hfJ]
  generalize hF4 : upF F3 2 (some (Opn.new 1 420 2)) = F4 at h4
  generalize hB4 : upB B3 2 [] = B4 at h4
  have hF41 : F4 1 = some (Opn.new 1 420 1) := by rw [← hF4, upF_ne (by omega)]; exact hF31
  have hB41 : B4 1 = [] := by rw [← hB4, upB_ne (by omega)]; exact hB31
  have hF42 : F4 2 = some (Opn.new 1 420 2) := by rw [← hF4, upF_same]
  have hB42 : B4 2 = [] := by rw [← hB4, upB_same]
  have hN4 : c4.N ≤ c4.cap := by rw [hn4.1, hn4.cap]; exact hN3
  simp (maxSteps := 1000000) (disch := omega) only [↓sy1, sy2, sy3, readOK, sy5, sy6, Nat.reduceEqDiff, ↓reduceIte, sy7, sy8, sy9, sya, oneOf, syb, syc, Nat.reduceAdd, Nat.reduceMul, syd, sye, syf, syg, syh, reduceCtorEq, hd4.load]
  refine call0 (d6bytes_spec x) ?_
  rintro bv w5 ⟨hbv, hg5⟩
  obtain ⟨G5, hx5, hro5⟩ := fresh_row (G := G4) hbv hg5
  have h5 := h4.ext hx5 id id id
  have hle := x.len_le
  have hlen := x.data_length
  have hn8 := needN_le (n := x.data.length) (k := 16) (by omega) (by omega)
  have hbl : ∀ w', lenF w' 0 bv = some (.int .i64 x.data.length) := fun w' => hro5.1.lenB w'
  have hxx5 : Ext KN G00 w0 G5 w5 := ((hx2.trans (hx3.mono (KN.of (by unfold KW; omega)))).trans (hx4.mono (KN.of (by unfold KW; omega)))).trans (hx5.mono (fun _ h => h.elim))
  clear h1 h2 h3 h4 hx1 hx2 hx3 hx4 hx5 hd0 hd1 hd2 hd3 hd4
  generalize x.data = dd at hlen hn8 hbl hro5 hbv
  have hN5 := hN4
  have hsp : ∃ k : Nat, ∃ kv : Int, kv = k ∧ k ≤ dd.length ∧ (((0 : Int) < dd.length ∧ (cut : Int).tmod dd.length = kv) ∨ (¬ (0 : Int) < dd.length ∧ 0 = kv)) := by
    by_cases h : 0 < dd.length
    · exact ⟨cut % dd.length, _, rfl, Nat.le_of_lt (Nat.mod_lt _ h), .inl ⟨by omega, rfl⟩⟩
    · exact ⟨0, 0, rfl, Nat.zero_le _, .inr ⟨by omega, rfl⟩⟩
  obtain ⟨k, kv, hkv, hk, hcase⟩ := hsp
  obtain ⟨va, hva, hroa⟩ := hro5.slcFrom hk
  obtain ⟨vb, hvb, hrob⟩ := hro5.slcTo hk
  rw [← hkv] at hva hvb
  cases t
  · rcases hcase with ⟨hp, hq⟩ | ⟨hp, rfl⟩
    rotate_left
    have hq := hp
    all_goals
      simp (maxSteps := 1000000) (disch := omega) only [↓sy1, sy2, sy3, readOK, sy5, sy6, Nat.reduceEqDiff, ↓reduceIte, sy7, sy8, sy9, sya, oneOf, syb, syc, Nat.reduceAdd, Nat.reduceMul, syd, sye, syf, syg, syh, reduceCtorEq, Int.ofNat_lt, hbl, hp, hq, decide_true, decide_false, hva, hvb]
      refine call0 (write_ok' (j := 1) (pos := 0) h5 hN5 hF41 rfl hrob (by first | (rw [List.length_take]; omega) | (rw [List.length_drop]; omega)) ?_) ?_
      · rw [hB41, freeN_upto (by omega)]
        refine Nat.le_trans (needN_le (k := 16) ?_ (by omega)) ?_ <;> simp only [List.length_take, List.length_drop, List.length_nil] <;> omega
      rintro _ w6 ⟨rfl, G6, c6, P6, o6, hx6, h6, hn6, _, _, _, hf6⟩
      rw [hB41] at h6 hf6
      rw [freeN_upto (by omega), show needN ([] : List UInt8).length = 0 from rfl] at hf6
      have hN6 : c6.N ≤ c6.cap := by rw [hn6.1, hn6.cap]; exact hN5
      generalize hF6 : upF F4 1 (some o6) = F6 at h6
      generalize hB6 : upB B4 1 (wrD [] 0 (dd.take k)) = B6 at h6
      have hF61 : F6 1 = some o6 := by rw [← hF6, upF_same]
      have hB61 : B6 1 = wrD [] 0 (dd.take k) := by rw [← hB6, upB_same]
      have hF62 : F6 2 = some (Opn.new 1 420 2) := by rw [← hF6, upF_ne (by omega)]; exact hF42
      have hB62 : B6 2 = [] := by rw [← hB6, upB_ne (by omega)]; exact hB42
      have hl6 : needN (wrD [] 0 (dd.take k)).length ≤ 17 := by
        refine needN_le (k := 16) ?_ (by omega)
        rw [wrD_length]
        split <;> simp only [List.length_take, List.length_drop, List.length_nil] <;> omega
      simp (maxSteps := 1000000) (disch := omega) only [↓sy1, sy2, sy3, readOK, sy5, sy6, Nat.reduceEqDiff, ↓reduceIte, sy7, sy8, sy9, sya, oneOf, syb, syc, Nat.reduceAdd, Nat.reduceMul, syd, sye, syf, syg, syh, reduceCtorEq, Int.ofNat_lt, hbl, hp, hq, decide_true, decide_false, hva, hvb]
      refine call0 (write_ok' (j := 1) (pos := k) h6 hN6 hF61 hkv (hroa.ext hx6 (fun _ h => h)) (by first | (rw [List.length_take]; omega) | (rw [List.length_drop]; omega)) ?_) ?_
      · rw [hB61]
        refine Nat.le_trans (needN_le (k := 16) ?_ (by omega)) ?_
        · have : (wrD [] 0 (dd.take k)).length ≤ 512 * 16 := by
            rw [wrD_length]
            split <;> simp only [List.length_take, List.length_drop, List.length_nil] <;> omega
          simp only [List.length_take, List.length_drop]
          omega
        · omega
      rintro _ w7 ⟨rfl, G7, c7, P7, o7, hx7, h7, hn7, _, _, _, hf7⟩
      rw [hB61, pieces2 hk] at h7 hf7
      have hN7 : c7.N ≤ c7.cap := by rw [hn7.1, hn7.cap]; exact hN6
      generalize hF7 : upF F6 1 (some o7) = F7 at h7
      generalize hB7 : upB B6 1 dd = B7 at h7
      have hF71 : F7 1 = some o7 := by rw [← hF7, upF_same]
      have hB71 : B7 1 = dd := by rw [← hB7, upB_same]
      have hF72 : F7 2 = some (Opn.new 1 420 2) := by rw [← hF7, upF_ne (by omega)]; exact hF62
      have hB72 : B7 2 = [] := by rw [← hB7, upB_ne (by omega)]; exact hB62
      have hro7 := (hro5.ext hx6 (fun _ h => h)).ext hx7 (fun _ h => h)
      simp (maxSteps := 1000000) (disch := omega) only [↓sy1, sy2, sy3, readOK, sy5, sy6, Nat.reduceEqDiff, ↓reduceIte, sy7, sy8, sy9, sya, oneOf, syb, syc, Nat.reduceAdd, Nat.reduceMul, syd, sye, syf, syg, syh, reduceCtorEq]
      refine call0 (write_ok (j := 2) (pos := 0) h7 hN7 hF72 hro7 (by omega) (by rw [hB72]; simp only [List.length_nil, Nat.zero_add, Nat.zero_max]; omega)) ?_
      rintro _ w8 ⟨rfl, G8, c8, P8, o8, hx8, h8, hn8', _, _, _, hf8⟩
      rw [hB72, wrD_new] at h8
      generalize hF8 : upF F7 2 (some o8) = F8 at h8
      generalize hB8 : upB B7 2 dd = B8 at h8
      have hF81 : F8 1 = some o7 := by rw [← hF8, upF_ne (by omega)]; exact hF71
      have hB81 : B8 1 = dd := by rw [← hB8, upB_ne (by omega)]; exact hB71
      have hF82 : F8 2 = some o8 := by rw [← hF8, upF_same]
      have hB82 : B8 2 = dd := by rw [← hB8, upB_same]
      have hro8 := hro7.ext hx8 (fun _ h => h)
      simp (maxSteps := 1000000) (disch := omega) only [↓sy1, sy2, sy3, readOK, sy5, sy6, Nat.reduceEqDiff, ↓reduceIte, sy7, sy8, sy9, sya, oneOf, syb, syc, Nat.reduceAdd, Nat.reduceMul, syd, sye, syf, syg, syh, reduceCtorEq]
      refine call0 (iread_spec (ρ := 9) h8 (by omega) (i := 1) (pos := 0) (n := 70656) (by omega) (by omega)) ?_
      rintro _ w9 ⟨u, G9, rfl, hu, hur, hx9, h9⟩
      have hrd := rdB_all (F := F8) (B := B8) (k := 16) (j := 1) (by omega) (by omega) hF81 (by rw [hB81]; omega)
      rw [upto1_length, show (1 : Int) = ((1 : Nat) : Int) from rfl, hrd.2, hB81] at hu
      rw [upto1_length, show (1 : Int) = ((1 : Nat) : Int) from rfl, hrd.1]
      have hro9 := hro8.ext hx9 (fun x hx => .inl hx)
      have hu9 := read_row hu hur
      simp (maxSteps := 1000000) (disch := omega) only [↓sy1, sy2, sy3, readOK, sy5, sy6, Nat.reduceEqDiff, ↓reduceIte, sy7, sy8, sy9, sya, oneOf, syb, syc, Nat.reduceAdd, Nat.reduceMul, syd, sye, syf, syg, syh, reduceCtorEq]
      refine call0 (iread_spec (ρ := 9) h9 (by omega) (i := 2) (pos := 0) (n := 70656) (by omega) (by omega)) ?_
      rintro _ w10 ⟨v, G10, rfl, hv, hvr, hx10, h10⟩
      have hrd := rdB_all (F := F8) (B := B8) (k := 16) (j := 2) (by omega) (by omega) hF82 (by rw [hB82]; omega)
      rw [upto1_length, show (2 : Int) = ((2 : Nat) : Int) from rfl, hrd.2, hB82] at hv
      rw [upto1_length, show (2 : Int) = ((2 : Nat) : Int) from rfl, hrd.1]
      have hro10 := hro9.ext hx10 (fun x hx => .inl hx)
      have hu10 := hu9.ext hx10 (fun x hx => .inl hx)
      have hgg : Grow w w10 := hg0.trans ((((((hxx5.trans (hx6.mono (KN.of (by unfold KW; omega)))).trans (hx7.mono (KN.of (by unfold KW; omega)))).trans (hx8.mono (KN.of (by unfold KW; omega)))).trans (hx9.mono (KN.of (by omega)))).trans (hx10.mono (KN.of (by omega)))).toGrow (by simp))
      have hs1 := sameBytes_spec u v dd dd w10 hu10.1 (Has.own hv) (by omega)
      simp (maxSteps := 1000000) (disch := omega) only [↓sy1, sy2, sy3, readOK, sy5, sy6, Nat.reduceEqDiff, ↓reduceIte, sy7, sy8, sy9, sya, oneOf, syb, syc, Nat.reduceAdd, Nat.reduceMul, syd, sye, syf, syg, syh, reduceCtorEq, eq_self, decide_true]
      refine call0 hs1 ?_
      rintro _ w11 ⟨rfl, hg11⟩
      have hs2 := sameBytes_spec u bv dd dd w11 (hu10.1.grow hg11) (hro10.1.grow hg11) (by omega)
      simp (maxSteps := 1000000) (disch := omega) only [↓sy1, sy2, sy3, readOK, sy5, sy6, Nat.reduceEqDiff, ↓reduceIte, sy7, sy8, sy9, sya, oneOf, syb, syc, Nat.reduceAdd, Nat.reduceMul, syd, sye, syf, syg, syh, reduceCtorEq, eq_self, decide_true]
      refine call0 hs2 ?_
      rintro _ w12 ⟨rfl, hg12⟩
      simp (maxSteps := 1000000) (disch := omega) only [↓sy1, sy2, sy3, readOK, sy5, sy6, Nat.reduceEqDiff, ↓reduceIte, sy7, sy8, sy9, sya, oneOf, syb, syc, Nat.reduceAdd, Nat.reduceMul, syd, sye, syf, syg, syh, reduceCtorEq, eq_self, decide_true]
      exact R_out ((hgg.trans hg11).trans hg12)
  · rcases hcase with ⟨hp, hq⟩ | ⟨hp, rfl⟩
    rotate_left
    have hq := hp
    all_goals
      simp (maxSteps := 1000000) (disch := omega) only [↓sy1, sy2, sy3, readOK, sy5, sy6, Nat.reduceEqDiff, ↓reduceIte, sy7, sy8, sy9, sya, oneOf, syb, syc, Nat.reduceAdd, Nat.reduceMul, syd, sye, syf, syg, syh, reduceCtorEq, Int.ofNat_lt, hbl, hp, hq, decide_true, decide_false, hva, hvb]
      refine call0 (write_ok' (j := 1) (pos := k) h5 hN5 hF41 hkv hroa (by first | (rw [List.length_take]; omega) | (rw [List.length_drop]; omega)) ?_) ?_
      · rw [hB41, freeN_upto (by omega)]
        refine Nat.le_trans (needN_le (k := 16) ?_ (by omega)) ?_ <;> simp only [List.length_take, List.length_drop, List.length_nil] <;> omega
      rintro _ w6 ⟨rfl, G6, c6, P6, o6, hx6, h6, hn6, _, _, _, hf6⟩
      rw [hB41] at h6 hf6
      rw [freeN_upto (by omega), show needN ([] : List UInt8).length = 0 from rfl] at hf6
      have hN6 : c6.N ≤ c6.cap := by rw [hn6.1, hn6.cap]; exact hN5
      generalize hF6 : upF F4 1 (some o6) = F6 at h6
      generalize hB6 : upB B4 1 (wrD [] k (dd.drop k)) = B6 at h6
      have hF61 : F6 1 = some o6 := by rw [← hF6, upF_same]
      have hB61 : B6 1 = wrD [] k (dd.drop k) := by rw [← hB6, upB_same]
      have hF62 : F6 2 = some (Opn.new 1 420 2) := by rw [← hF6, upF_ne (by omega)]; exact hF42
      have hB62 : B6 2 = [] := by rw [← hB6, upB_ne (by omega)]; exact hB42
      have hl6 : needN (wrD [] k (dd.drop k)).length ≤ 17 := by
        refine needN_le (k := 16) ?_ (by omega)
        rw [wrD_length]
        split <;> simp only [List.length_take, List.length_drop, List.length_nil] <;> omega
      simp (maxSteps := 1000000) (disch := omega) only [↓sy1, sy2, sy3, readOK, sy5, sy6, Nat.reduceEqDiff, ↓reduceIte, sy7, sy8, sy9, sya, oneOf, syb, syc, Nat.reduceAdd, Nat.reduceMul, syd, sye, syf, syg, syh, reduceCtorEq, Int.ofNat_lt, hbl, hp, hq, decide_true, decide_false, hva, hvb]
      refine call0 (write_ok' (j := 1) (pos := 0) h6 hN6 hF61 rfl (hrob.ext hx6 (fun _ h => h)) (by first | (rw [List.length_take]; omega) | (rw [List.length_drop]; omega)) ?_) ?_
      · rw [hB61]
        refine Nat.le_trans (needN_le (k := 16) ?_ (by omega)) ?_
        · have : (wrD [] k (dd.drop k)).length ≤ 512 * 16 := by
            rw [wrD_length]
            split <;> simp only [List.length_take, List.length_drop, List.length_nil] <;> omega
          simp only [List.length_take, List.length_drop]
          omega
        · omega
      rintro _ w7 ⟨rfl, G7, c7, P7, o7, hx7, h7, hn7, _, _, _, hf7⟩
      rw [hB61, pieces1 hk] at h7 hf7
      have hN7 : c7.N ≤ c7.cap := by rw [hn7.1, hn7.cap]; exact hN6
      generalize hF7 : upF F6 1 (some o7) = F7 at h7
      generalize hB7 : upB B6 1 dd = B7 at h7
      have hF71 : F7 1 = some o7 := by rw [← hF7, upF_same]
      have hB71 : B7 1 = dd := by rw [← hB7, upB_same]
      have hF72 : F7 2 = some (Opn.new 1 420 2) := by rw [← hF7, upF_ne (by omega)]; exact hF62
      have hB72 : B7 2 = [] := by rw [← hB7, upB_ne (by omega)]; exact hB62
      have hro7 := (hro5.ext hx6 (fun _ h => h)).ext hx7 (fun _ h => h)
      simp (maxSteps := 1000000) (disch := omega) only [↓sy1, sy2, sy3, readOK, sy5, sy6, Nat.reduceEqDiff, ↓reduceIte, sy7, sy8, sy9, sya, oneOf, syb, syc, Nat.reduceAdd, Nat.reduceMul, syd, sye, syf, syg, syh, reduceCtorEq]
      refine call0 (write_ok (j := 2) (pos := 0) h7 hN7 hF72 hro7 (by omega) (by rw [hB72]; simp only [List.length_nil, Nat.zero_add, Nat.zero_max]; omega)) ?_
      rintro _ w8 ⟨rfl, G8, c8, P8, o8, hx8, h8, hn8', _, _, _, hf8⟩
      rw [hB72, wrD_new] at h8
      generalize hF8 : upF F7 2 (some o8) = F8 at h8
      generalize hB8 : upB B7 2 dd = B8 at h8
      have hF81 : F8 1 = some o7 := by rw [← hF8, upF_ne (by omega)]; exact hF71
      have hB81 : B8 1 = dd := by rw [← hB8, upB_ne (by omega)]; exact hB71
      have hF82 : F8 2 = some o8 := by rw [← hF8, upF_same]
      have hB82 : B8 2 = dd := by rw [← hB8, upB_same]
      have hro8 := hro7.ext hx8 (fun _ h => h)
      simp (maxSteps := 1000000) (disch := omega) only [↓sy1, sy2, sy3, readOK, sy5, sy6, Nat.reduceEqDiff, ↓reduceIte, sy7, sy8, sy9, sya, oneOf, syb, syc, Nat.reduceAdd, Nat.reduceMul, syd, sye, syf, syg, syh, reduceCtorEq]
      refine call0 (iread_spec (ρ := 9) h8 (by omega) (i := 1) (pos := 0) (n := 70656) (by omega) (by omega)) ?_
      rintro _ w9 ⟨u, G9, rfl, hu, hur, hx9, h9⟩
      have hrd := rdB_all (F := F8) (B := B8) (k := 16) (j := 1) (by omega) (by omega) hF81 (by rw [hB81]; omega)
      rw [upto1_length, show (1 : Int) = ((1 : Nat) : Int) from rfl, hrd.2, hB81] at hu
      rw [upto1_length, show (1 : Int) = ((1 : Nat) : Int) from rfl, hrd.1]
      have hro9 := hro8.ext hx9 (fun x hx => .inl hx)
      have hu9 := read_row hu hur
      simp (maxSteps := 1000000) (disch := omega) only [↓sy1, sy2, sy3, readOK, sy5, sy6, Nat.reduceEqDiff, ↓reduceIte, sy7, sy8, sy9, sya, oneOf, syb, syc, Nat.reduceAdd, Nat.reduceMul, syd, sye, syf, syg, syh, reduceCtorEq]
      refine call0 (iread_spec (ρ := 9) h9 (by omega) (i := 2) (pos := 0) (n := 70656) (by omega) (by omega)) ?_
      rintro _ w10 ⟨v, G10, rfl, hv, hvr, hx10, h10⟩
      have hrd := rdB_all (F := F8) (B := B8) (k := 16) (j := 2) (by omega) (by omega) hF82 (by rw [hB82]; omega)
      rw [upto1_length, show (2 : Int) = ((2 : Nat) : Int) from rfl, hrd.2, hB82] at hv
      rw [upto1_length, show (2 : Int) = ((2 : Nat) : Int) from rfl, hrd.1]
      have hro10 := hro9.ext hx10 (fun x hx => .inl hx)
      have hu10 := hu9.ext hx10 (fun x hx => .inl hx)
      have hgg : Grow w w10 := hg0.trans ((((((hxx5.trans (hx6.mono (KN.of (by unfold KW; omega)))).trans (hx7.mono (KN.of (by unfold KW; omega)))).trans (hx8.mono (KN.of (by unfold KW; omega)))).trans (hx9.mono (KN.of (by omega)))).trans (hx10.mono (KN.of (by omega)))).toGrow (by simp))
      have hs1 := sameBytes_spec u v dd dd w10 hu10.1 (Has.own hv) (by omega)
      simp (maxSteps := 1000000) (disch := omega) only [↓sy1, sy2, sy3, readOK, sy5, sy6, Nat.reduceEqDiff, ↓reduceIte, sy7, sy8, sy9, sya, oneOf, syb, syc, Nat.reduceAdd, Nat.reduceMul, syd, sye, syf, syg, syh, reduceCtorEq, eq_self, decide_true]
      refine call0 hs1 ?_
      rintro _ w11 ⟨rfl, hg11⟩
      have hs2 := sameBytes_spec u bv dd dd w11 (hu10.1.grow hg11) (hro10.1.grow hg11) (by omega)
      simp (maxSteps := 1000000) (disch := omega) only [↓sy1, sy2, sy3, readOK, sy5, sy6, Nat.reduceEqDiff, ↓reduceIte, sy7, sy8, sy9, sya, oneOf, syb, syc, Nat.reduceAdd, Nat.reduceMul, syd, sye, syf, syg, syh, reduceCtorEq, eq_self, decide_true]
      refine call0 hs2 ?_
      rintro _ w12 ⟨rfl, hg12⟩
      simp (maxSteps := 1000000) (disch := omega) only [↓sy1, sy2, sy3, readOK, sy5, sy6, Nat.reduceEqDiff, ↓reduceIte, sy7, sy8, sy9, sya, oneOf, syb, syc, Nat.reduceAdd, Nat.reduceMul, syd, sye, syf, syg, syh, reduceCtorEq, eq_self, decide_true]
      exact R_out ((hgg.trans hg11).trans hg12)
end Go.Proofs.YtddiikeepncakaaGreat

/- Arguments opened: rows of numbers, of bytes. What is only read reads as it did. -/
namespace Go.Proofs.YtddiikeepncakaaGreat
open Go
set_option linter.unusedSimpArgs false
open Go.RowKit Go.ChangeShapes Go.WideShapes Go.Deep Go.Joins
section
variable {H : Type} {enc : TypeId × Value → H} {w : World} {base : Nat} {spare : Nat → Bool} {held : Bool}
theorem u8_nat {n : Int} (h : (Lit.int .u8 n).wf = true) : ∃ k : Nat, k < 256 ∧ n = (k : Int) := by
  have := bounds_u8 h
  exact ⟨n.toNat, by omega, by omega⟩
/-- What is only read reads as it did. -/
theorem argsStay {P : Program} {W W' : World} (hl : laidOutB P = true) (hb : Below W.heap.size W W') : ∀ {ts : List TypeId} {vs : List Value} {ds : List (DataW H)} {ps : List MemPlace}, (ts.all fun t => P.readableRec t && decide (t < P.types.size)) = true →
    DataW.TrodAll enc P W 0 (fun _ => true) true ts vs ds ps → (∀ x ∈ ps, x.block < W.heap.size) → DataW.TrodAll enc P W' 0 (fun b => decide (b < W.heap.size)) true ts vs ds ps
  | [], _, _, _, _, h, _ => by
    obtain ⟨rfl, rfl, rfl⟩ := trodAll_nil h
    exact trodAll_mk0
  | t :: ts, _, _, _, ht, h, hlt => by
    obtain ⟨v, vs, d, ds, p, q, rfl, rfl, rfl, h0, h1⟩ := trodAll_cons h
    simp only [List.all_cons, Bool.and_eq_true, decide_eq_true_eq] at ht
    exact trodAll_cons_mk (Below.trod hl ht.1.1 ht.1.2 h0 hb (fun x hx => hlt x (by simp [hx]))) (argsStay hl hb ht.2 h1 (fun x hx => hlt x (by simp [hx])))
end
end Go.Proofs.YtddiikeepncakaaGreat

/- Arguments opened: rows of groups of pages. -/
namespace Go.Proofs.YtddiikeepncakaaGreat
open Go
set_option linter.unusedSimpArgs false
open Go.RowKit Go.ChangeShapes Go.WideShapes Go.Deep Go.Joins
section
variable {H : Type} {enc : TypeId × Value → H} {w : World} {base : Nat} {spare : Nat → Bool} {held : Bool}
end
end Go.Proofs.YtddiikeepncakaaGreat

/- Arguments opened: a number of sixteen bits; two of them. -/
namespace Go.Proofs.YtddiikeepncakaaGreat
open Go
set_option linter.unusedSimpArgs false
open Go.RowKit Go.ChangeShapes Go.WideShapes Go.Deep Go.Joins
theorem u16_nat {n : Int} (h : (Lit.int .u16 n).wf = true) : ∃ k : Nat, k < 65536 ∧ n = (k : Int) := by
  have := bounds_u16 h
  exact ⟨n.toNat, by omega, by omega⟩
section
variable {H : Type} {enc : TypeId × Value → H}
end
end Go.Proofs.YtddiikeepncakaaGreat

/- Arguments opened: a deed, rows of deeds (law06). -/
namespace Go.Proofs.YtddiikeepncakaaGreat
open Go
set_option linter.unusedSimpArgs false
open Go.RowKit Go.ChangeShapes Go.WideShapes Go.Deep Go.Joins
/-- The numbers of a deed are 64 bits wide. -/
def Deed6.Ok (x : Deed6) : Prop := (-9223372036854775808 ≤ x.i ∧ x.i ≤ 9223372036854775807) ∧ (-9223372036854775808 ≤ x.at_ ∧ x.at_ ≤ 9223372036854775807) ∧ (-9223372036854775808 ≤ x.n ∧ x.n ≤ 9223372036854775807) ∧ (-9223372036854775808 ≤ x.node ∧ x.node ≤ 9223372036854775807) ∧ (-9223372036854775808 ≤ x.mode ∧ x.mode ≤ 9223372036854775807) ∧ (-9223372036854775808 ≤ x.links ∧ x.links ≤ 9223372036854775807)
section
variable {H : Type} {enc : TypeId × Value → H} {w : World} {base : Nat} {spare : Nat → Bool} {held : Bool}
theorem cellsDeed6 : Tryz.prog.cellsOf 27 = 8 := by kernel_rfl
theorem cellsI6 : Tryz.prog.cellsOf 3 = 1 := by kernel_rfl
theorem cellsK6 : Tryz.prog.cellsOf 25 = 1 := by kernel_rfl
theorem cellsB6 : Tryz.prog.cellsOf 5 = 1 := by kernel_rfl
set_option maxRecDepth 100000 in
theorem deed6_fields {fuel : Nat} {cs : List Value} {x : DataW H × List MemPlace} (h : DataW.trod enc Tryz.prog w base spare held fuel 27 cs = some x) : ∃ y : Deed6, cs = y.cells ∧ y.Ok := by
  obtain ⟨xs, n, _, rfl, hl, hlen, hf⟩ := DataW.trod_struct Tryz.underlying27 h
  rw [cellsDeed6] at hl
  match xs, hlen with
  | [y0, y1, y2, y3, y4, y5, y6, y7], _ =>
    match cs, hl with
    | [c0, c1, c2, c3, c4, c5, c6, c7], _ =>
      have h0 := hf 0 _ rfl
      have h1 := hf 1 _ rfl
      have h2 := hf 2 _ rfl
      have h3 := hf 3 _ rfl
      have h4 := hf 4 _ rfl
      have h5 := hf 5 _ rfl
      have h6 := hf 6 _ rfl
      have h7 := hf 7 _ rfl
      simp only [cellsI6, cellsK6, cellsB6, List.drop_zero, List.drop_succ_cons, List.take_succ_cons, List.take_zero, List.getElem?_cons_zero, List.getElem?_cons_succ] at h0 h1 h2 h3 h4 h5 h6 h7
      obtain ⟨a0, e0, _, w0⟩ := DataW.trod_int Tryz.underlying3 h0
      obtain ⟨a1, e1, _, w1⟩ := DataW.trod_int Tryz.underlying3 h1
      obtain ⟨a2, e2, _, w2⟩ := DataW.trod_int Tryz.underlying3 h2
      obtain ⟨a3, e3, _, w3⟩ := DataW.trod_int Tryz.underlying3 h3
      obtain ⟨a4, e4, _, w4⟩ := DataW.trod_int Tryz.underlying25 h4
      obtain ⟨a5, e5, _, w5⟩ := DataW.trod_int Tryz.underlying3 h5
      obtain ⟨a6, e6, _, w6⟩ := DataW.trod_int Tryz.underlying3 h6
      obtain ⟨a7, e7, _, w7⟩ := DataW.trod_int Tryz.underlying5 h7
      cases e0; cases e1; cases e2; cases e3; cases e4; cases e5; cases e6; cases e7
      obtain ⟨k7, hk7, rfl⟩ := u8_nat w7
      refine ⟨⟨a0, a1, a2, a3, a4, a5, a6, UInt8.ofNat k7⟩, ?_, bounds_i64 w1, bounds_i64 w2, bounds_i64 w3, bounds_i64 w4, bounds_i64 w5, bounds_i64 w6⟩
      rw [Deed6.cells]
      simp only [UInt8.toNat_ofNat', Nat.mod_eq_of_lt (show k7 < 2 ^ 8 by omega)]
set_option maxRecDepth 100000 in
theorem open_deed6 {v : Value} {d : DataW H} {p : List MemPlace} {W : World} {b0 : Nat} (hv : Value.okWide Tryz.prog W .any b0 27 v) (h : DataW.Trod enc Tryz.prog W 0 (fun _ => true) true 27 v d p) :
    ∃ x : Deed6, v = x.val ∧ x.Ok := by
  obtain ⟨cs, rfl, hsz⟩ := okWide_struct Tryz.underlying27 hv
  obtain ⟨fuel, hf⟩ := h
  have hf' : DataW.trod enc Tryz.prog W 0 (fun _ => true) true fuel 27 cs.toList = some (d, p) := by simpa [Value.cells] using hf
  obtain ⟨y, hy, hok⟩ := deed6_fields hf'
  refine ⟨y, ?_, hok⟩
  rw [Deed6.val, show cs = y.cells.toArray by rw [← hy]]
end
end Go.Proofs.YtddiikeepncakaaGreat
