/- Texts of one claim, put together in their order: what each proves stands ahead of it. -/
import Derived.Test.YtddiikeepncakaaGreatMf
import Derived.Test.YtddiikeepncakaaGreatMc
import Derived.Carry
import Derived.Deep.Slices
import Derived.Lib.SmallJoins
import Derived.OpenShut
import Derived.Test.YtddiikeepncakaaGreatMd
/- The reference's files in memory, in few words; a new one; what is committed and forgotten. -/
namespace Go.Proofs.YtddiikeepncakaaGreat
open Go
set_option linter.unusedSimpArgs false
open Go.RowKit (intOf)
def zfile : List Value := [.int .i64 0, .int .i64 0, .int .i64 0, .slice none 0 0, .slice none 0 0, .int .i64 0]
theorem elemRF : ElemIs Tryz.prog 100 105 6 80 (.agg zfile.toArray) := elem_of (by kernel_rfl)
/-- A row that stays. -/
def ZeroK (k : Nat) (G : Gh) (w : World) (v : Value) (xs : List Value) : Prop := Has k w v xs ∧ ∀ b, v.ownBlock = some b → xs ≠ [] → b < w.heap.size ∧ G.own b = 0
theorem ZeroK.ext {k : Nat} {K : Nat → Prop} {G G' : Gh} {w w' : World} {v : Value} {xs : List Value} (h : ZeroK k G w v xs) (hx : Ext K G w G' w') (h0 : ¬ K 0) : ZeroK k G' w' v xs := by
  refine ⟨h.1.keep hx.keep (fun b hb hne => by rw [(h.2 b hb hne).2]; exact h0), fun b hb hne => ?_⟩
  obtain ⟨h1, h2⟩ := h.2 b hb hne
  exact ⟨Nat.lt_of_lt_of_le h1 hx.size, by rw [hx.own b h1]; exact h2⟩
/-- The cells of a file. -/
def RF (G : Gh) (w : World) (cs : List Value) : Prop := ∃ (kd md ln ind : Int) (bv dv : Value) (b : List UInt8) (d : List Int), cs = [.int .i64 kd, .int .i64 md, .int .i64 ln, bv, dv, .int .i64 ind] ∧ Zero G w bv (bs b) ∧ Zero G w dv (ints d) ∧ b.length ≤ 70656 ∧ d.length ≤ 138
theorem RF.ext {K : Nat → Prop} {G G' : Gh} {w w' : World} {cs : List Value} (h : RF G w cs) (hx : Ext K G w G' w') (h0 : ¬ K 0) : RF G' w' cs := by
  obtain ⟨kd, md, ln, ind, bv, dv, b, d, rfl, h1, h2, h3, h4⟩ := h
  exact ⟨kd, md, ln, ind, bv, dv, b, d, rfl, h1.ext hx h0, h2.ext hx h0, h3, h4⟩
theorem RF.zero (G : Gh) (w : World) : RF G w zfile := ⟨0, 0, 0, 0, _, _, [], [], rfl, ⟨Has.nil _ _, fun b hb => by cases hb⟩, ⟨Has.nil _ _, fun b hb => by cases hb⟩, by simp, by simp⟩
theorem RF.len {G : Gh} {w : World} {cs : List Value} (h : RF G w cs) : cs.length = 6 := by obtain ⟨_, _, _, _, _, _, _, _, rfl, _⟩ := h; rfl
theorem RF.cells {G : Gh} {w : World} {cs : List Value} (h : RF G w cs) : ∀ u ∈ cs, isCell u = true := by
  obtain ⟨kd, md, ln, ind, bv, dv, b, d, rfl, h1, h2, h3, h4⟩ := h
  intro u hu
  simp at hu
  rcases hu with rfl | rfl | rfl | rfl | rfl | rfl
  · rfl
  · rfl
  · rfl
  · exact h1.1.isCell
  · exact h2.1.isCell
  · rfl
/-- So many files. -/
def RFs (G : Gh) (w : World) (v : Value) (k : Nat) : Prop := ∃ css : List (List Value), css.length = k ∧ ZeroK 6 G w v css.flatten ∧ ∀ cs ∈ css, RF G w cs
theorem RFs.ext {k : Nat} {K : Nat → Prop} {G G' : Gh} {w w' : World} {v : Value} (h : RFs G w v k) (hx : Ext K G w G' w') (h0 : ¬ K 0) : RFs G' w' v k := by
  obtain ⟨css, h1, h2, h3⟩ := h
  exact ⟨css, h1, h2.ext hx h0, fun cs hc => (h3 cs hc).ext hx h0⟩
theorem flat6 : ∀ {css : List (List Value)}, (∀ cs ∈ css, cs.length = 6) → css.flatten.length = css.length * 6
  | [], _ => rfl
  | c :: css, h => by
    rw [List.flatten_cons, List.length_append, h c (by simp), flat6 (fun cs hc => h cs (by simp [hc])), List.length_cons]; omega
theorem flat6_at : ∀ {css : List (List Value)} {i j : Nat} {cs : List Value}, (∀ cs ∈ css, cs.length = 6) → css[i]? = some cs → j < 6 → css.flatten[i * 6 + j]? = cs[j]?
  | [], i, j, cs, _, hi, _ => by simp at hi
  | c :: css, 0, j, cs, h, hi, hj => by
    simp at hi; subst hi
    rw [List.flatten_cons, List.getElem?_append_left (by rw [h c (by simp)]; omega)]
    congr 1; omega
  | c :: css, i + 1, j, cs, h, hi, hj => by
    simp at hi
    have hc := h c (by simp)
    rw [List.flatten_cons, List.getElem?_append_right (by omega), hc, show (i + 1) * 6 + j - 6 = i * 6 + j from by omega]
    exact flat6_at (fun cs hc => h cs (by simp [hc])) hi hj
theorem made6 (k : Nat) : (madeCells (Value.agg zfile.toArray).cells (k * 6)).toList = (List.replicate k zfile).flatten := by
  have hz : (Value.agg zfile.toArray).cells = zfile.toArray := rfl
  rw [hz]
  refine List.ext_getElem? fun j => ?_
  by_cases hj : j < k * 6
  · have h1 := flat6_at (css := List.replicate k zfile) (i := j / 6) (j := j % 6) (cs := zfile) (fun cs hc => by rw [(List.mem_replicate.1 hc).2]; rfl) (by rw [List.getElem?_replicate, if_pos (by omega)]) (by omega)
    rw [show j / 6 * 6 + j % 6 = j from by omega] at h1
    have hl : zfile.toArray.size = 6 := rfl
    have h2 : (madeCells zfile.toArray (k * 6)).toList[j]? = some (zfile.toArray[j % 6]!) := by
      simp [madeCells, hj, hl]
    rw [h1, h2]
    have h3 : j % 6 < 6 := by omega
    generalize j % 6 = i at h3
    match i, h3 with
    | 0, _ => rfl
    | 1, _ => rfl
    | 2, _ => rfl
    | 3, _ => rfl
    | 4, _ => rfl
    | 5, _ => rfl
  · rw [List.getElem?_eq_none (by simp [size_madeCells]; omega), List.getElem?_eq_none (by rw [flat6 (fun cs hc => by rw [(List.mem_replicate.1 hc).2]; rfl), List.length_replicate]; omega)]
/-- A map that stays. -/
structure RK (G : Gh) (w : World) (r : Nat) (P I : List Bool) : Prop where
  own : G.own r = 0
  p4 : P.length ≤ 4096
  i5 : I.length ≤ 512
  at_ : ∃ pv iv, w.heap[r]? = some (.cells #[.int .i64 P.length, .int .i64 I.length, pv, iv] 139 (0, 0)) ∧ Zero G w pv (bls P) ∧ Zero G w iv (bls I)
theorem RK.ext {K : Nat → Prop} {G G' : Gh} {w w' : World} {r : Nat} {P I : List Bool} (h : RK G w r P I) (hx : Ext K G w G' w') (h0 : ¬ K 0) : RK G' w' r P I := by
  obtain ⟨h2, h4, h5, pv, iv, h6, h7, h8⟩ := h
  have hlt := hx.lt h6
  exact ⟨by rw [hx.own r hlt]; exact h2, h4, h5, pv, iv, hx.heap h6 (by rw [h2]; exact h0), h7.ext hx h0, h8.ext hx h0⟩
/-- The reference's store: its map, its files; both as they were when all was committed last. -/
structure RS (G : Gh) (w : World) (r k : Nat) : Prop where
  own : G.own r = 11
  fix : G.fix r = 0
  at_ : ∃ M lv KM kv P I P2 I2, w.heap[r]? = some (.cells #[.pointer (some ⟨M, 0, none⟩), lv, .pointer (some ⟨KM, 0, none⟩), kv] 102 (0, 0)) ∧ RM G 8 w M P I ∧ I.length = k ∧ RK G w KM P2 I2 ∧ I2.length = k ∧ RFs G w lv k ∧ RFs G w kv k
theorem RS.ext {K : Nat → Prop} {G G' : Gh} {w w' : World} {r k : Nat} (h : RS G w r k) (hx : Ext K G w G' w') (h0 : ¬ K 0) (h8 : ¬ K 8) (h11 : ¬ K 11) : RS G' w' r k := by
  obtain ⟨h1, h2, M, lv, KM, kv, P, I, P2, I2, h3, h4, h5, h6, h7, h9, h10⟩ := h
  have hlt := hx.lt h3
  exact ⟨by rw [hx.own r hlt]; exact h1, by rw [hx.fixe r hlt (by rw [h1]; exact h11)]; exact h2, M, lv, KM, kv, P, I, P2, I2, hx.heap h3 (by rw [h1]; exact h11), h4.ext hx h8 h0, h5, h6.ext hx h0, h7, h9.ext hx h0, h10.ext hx h0⟩
section
variable {G : Gh} {w : World} {r M : Nat} {P I : List Bool}
/-- A map is copied. -/
theorem rmfork_spec {pv iv : Value} (o : Nat) (hM : w.heap[M]? = some (.cells #[.int .i64 P.length, .int .i64 I.length, pv, iv] 139 (0, 0))) (hpc : isCell pv = true) (hic : isCell iv = true) :
    Calls Tryz.prog 55 #[.pointer (some ⟨M, 0, none⟩)] w (Ret fun v w' => ∃ f, v = .pointer (some ⟨f, 0, none⟩) ∧ w.heap.size ≤ f ∧ w'.heap[f]? = some (.cells #[.int .i64 P.length, .int .i64 I.length, pv, iv] 139 (0, 0)) ∧ Grow w w') := by
  apply enter55
  apply R_in
  have hl4 := loadN4b hM
  have hg : Grow w (w.alloc (.cells (Value.agg #[.int .i64 0, .int .i64 0, .slice none 0 0, .slice none 0 0]).cells 139)) := (Keep.refl _ _).alloc _
  have hb := heap_alloc_new w (.cells (Value.agg #[.int .i64 0, .int .i64 0, .slice none 0 0, .slice none 0 0]).cells 139)
  have hcl : ∀ u ∈ [Value.int .i64 P.length, .int .i64 I.length, pv, iv], isCell u = true := by
    intro u hu
    simp at hu
    rcases hu with rfl | rfl | rfl | rfl
    · rfl
    · rfl
    · exact hpc
    · exact hic
  obtain ⟨w2, hs2, hb2, hk2⟩ := storeN_cells [Value.int .i64 P.length, .int .i64 I.length, pv, iv] _ _ 0 hb (by simp [Value.cells]) hcl
  have st2 : stnF (w.alloc (.cells (Value.agg #[.int .i64 0, .int .i64 0, .slice none 0 0, .slice none 0 0]).cells 139)) 4 (.pointer (some ⟨w.heap.size, 0, none⟩)) (.agg #[.int .i64 P.length, .int .i64 I.length, pv, iv]) = some (undef, w2) := by
    have hs2' := hs2
    simp only [stnF, Value.cells]
    show (if (4 : Nat) = 4 then _ else _) = _
    rw [if_pos rfl]
    exact congrArg (Option.map fun w => (undef, w)) hs2'
  simp (maxSteps := 1000000) (disch := omega) only [↓sy1, sy2, sy3, readOK, sy5, sy6, Nat.reduceEqDiff, ↓reduceIte, sy7, sy8, sy9, sya, oneOf, syb, syc, Nat.reduceAdd, Nat.reduceMul, syd, sye, syf, syg, syh, reduceCtorEq, F55, hl4, st2]
  refine R_out ⟨w.heap.size, rfl, Nat.le_refl _, ?_, hg.then hk2 (fun b hb hh => by omega)⟩
  rw [hb2]; rfl
end
end Go.Proofs.YtddiikeepncakaaGreat

/- The reference's store: all is kept; a new one. A disk for the laws. -/
namespace Go.Proofs.YtddiikeepncakaaGreat
open Go
set_option linter.unusedSimpArgs false
open Go.RowKit (intOf)
section
variable {G : Gh} {w : World} {r k : Nat}
/-- A store of which nothing need be kept yet. -/
structure RS0 (G : Gh) (w : World) (r k : Nat) : Prop where
  own : G.own r = 11
  fix : G.fix r = 0
  at_ : ∃ M lv kmv kv P I, w.heap[r]? = some (.cells #[.pointer (some ⟨M, 0, none⟩), lv, kmv, kv] 102 (0, 0)) ∧ RM G 8 w M P I ∧ I.length = k ∧ RFs G w lv k
theorem RS.zero (h : RS G w r k) : RS0 G w r k := by
  obtain ⟨h1, h2, M, lv, KM, kv, P, I, P2, I2, h3, h4, h5, h6, h7, h9, h10⟩ := h
  exact ⟨h1, h2, M, lv, _, kv, P, I, h3, h4, h5, h9⟩
theorem RFs.isCell {v : Value} (h : RFs G w v k) : isCell v = true := by obtain ⟨css, _, h2, _⟩ := h; exact h2.1.isCell
set_option maxHeartbeats 1000000 in
theorem rs_commit (h : RS0 G w r k) : Calls Tryz.prog 22 #[.pointer (some ⟨r, 0, none⟩)] w (Ret fun _ w' => ∃ G', RS G' w' r k ∧ Ext (fun x => x = 11) G w G' w' ∧ Keep (fun b => b = r) w w' ∧ ∀ b, b < w.heap.size → G'.own b = G.own b ∧ G'.fix b = G.fix b) := by
  obtain ⟨h1, h2, M, lv, kmv, kv, P, I, h3, h4, h5, h6⟩ := h
  obtain ⟨r1, r2, r3, r4, r5, pv, iv, hM, hpz, hiz⟩ := id h4
  apply enter22
  apply R_in
  simp (maxSteps := 1000000) (disch := omega) only [↓sy1, sy2, sy3, readOK, sy5, sy6, Nat.reduceEqDiff, ↓reduceIte, sy7, sy8, sy9, sya, oneOf, syb, syc, Nat.reduceAdd, Nat.reduceMul, syd, sye, syf, syg, syh, reduceCtorEq, F22]
  refine draw22_0 (fun _ => False) ?_
  have hgd : Grow w w.drew := (Keep.refl _ _).drew
  have hxd : Ext0 G w G w.drew := .grow hgd
  have h3d := hgd.gheap h3
  have hMd := hgd.gheap hM
  generalize w.drew = w0 at hgd hxd h3d hMd ⊢
  have hc0 : w0.cell? ⟨r, 0, none⟩ = some (.pointer (some ⟨M, 0, none⟩)) := by rw [cell_block h3d]; rfl
  have hc1 : w0.cell? ⟨r, 1, none⟩ = some lv := by rw [cell_block h3d]; rfl
  simp (maxSteps := 1000000) (disch := omega) only [↓sy1, sy2, sy3, readOK, sy5, sy6, Nat.reduceEqDiff, ↓reduceIte, sy7, sy8, sy9, sya, oneOf, syb, syc, Nat.reduceAdd, Nat.reduceMul, syd, sye, syf, syg, syh, reduceCtorEq, PL22_0, hc0, hc1]
  refine call0 (rmfork_spec 0 hMd hpz.1.isCell hiz.1.isCell) ?_
  rintro _ w1 ⟨f, rfl, hf, hF, hg1⟩
  have hx1 : Ext0 G w (G.upto w0.heap.size (fun _ => 0) (fun _ => 0)) w1 := hxd.trans (.upto hg1 _ _)
  have hof := upto_own (G := G) (o := 0) (f := 0) hf
  have hrl : r < w.heap.size := (Array.getElem?_eq_some_iff.1 h3).1
  have hgf : ∀ b, b < w.heap.size → (G.upto w0.heap.size (fun _ => 0) (fun _ => 0)).own b = G.own b ∧ (G.upto w0.heap.size (fun _ => 0) (fun _ => 0)).fix b = G.fix b := fun b hb => ⟨hx1.own b hb, hx1.fixe b hb id⟩
  have hk1 : Keep (fun b => b = r) w w1 := (hgd.trans hg1).grow
  have ho : (G.upto w0.heap.size (fun _ => 0) (fun _ => 0)).own r = 11 ∧ (G.upto w0.heap.size (fun _ => 0) (fun _ => 0)).fix r = 0 := by
    rw [hx1.own r hrl, hx1.fixe r hrl id]; exact ⟨h1, h2⟩
  have h4' := h4.ext hx1 id id
  have h6' := h6.ext hx1 id
  have hK : RK (G.upto w0.heap.size (fun _ => 0) (fun _ => 0)) w1 f P I := ⟨hof.1, r4, r5, pv, iv, hF, hpz.ext hx1 id, hiz.ext hx1 id⟩
  have h3' := hg1.gheap h3d
  generalize (G.upto w0.heap.size (fun _ => 0) (fun _ => 0)) = G1 at hx1 ho h4' h6' hK hgf
  obtain ⟨w2, st2, hb2, hk2⟩ := cell_store (i := 2) h3' (by simp) (u := .pointer (some ⟨f, 0, none⟩)) rfl
  obtain ⟨w3, st3, hb3, hk3⟩ := cell_store (i := 3) hb2 (by simp) (u := lv) h6.isCell
  have hx3 : Ext (fun x => x = 11) G1 w1 G1 w3 := .on0 (hk2.trans hk3) ho.1 ho.2
  simp (maxSteps := 1000000) (disch := omega) only [↓sy1, sy2, sy3, readOK, sy5, sy6, Nat.reduceEqDiff, ↓reduceIte, sy7, sy8, sy9, sya, oneOf, syb, syc, Nat.reduceAdd, Nat.reduceMul, syd, sye, syf, syg, syh, reduceCtorEq, st2, st3]
  refine ⟨hg1, R_out ⟨G1, ⟨ho.1, ho.2, M, lv, f, lv, P, I, P, I, ?_, h4'.ext hx3 (by omega) (by omega), h5, hK.ext hx3 (by omega), h5, h6'.ext hx3 (by omega), h6'.ext hx3 (by omega)⟩, (hx1.mono (fun _ h => h.elim)).trans hx3, (hk1.trans hk2).trans hk3, hgf⟩⟩
  rw [hb3]; rfl
/-- make, files. -/
theorem mkF_rule {kk : Kont} {e : Env} {w : World} {l : List GOp} {d : Option Nat} {x y : Operand} {n : Nat} {ty : TypeId} (hx : ev e x = .int .i64 n) (hy : ev e y = .int .i64 n) (hn : n ≤ 5000)
    (hh : ∀ v w', Grow w w' → w'.ownsRow w.heap.size 105 6 v n (List.replicate n zfile).flatten → R (symOps Tryz.prog l kk (updO e d v) w')) :
    R (symOps Tryz.prog (⟨d, .hard (H (.makeSlice 100 x y) ty), none⟩ :: l) kk e w) := by
  obtain ⟨i, hi, hz, hsz, hby⟩ := elemRF.hi
  have hr := run_make (P := Tryz.prog) w 100 105 i (.agg zfile.toArray) elemRF.ht hi hz .i64 .i64 n n (by omega) (by omega) (by rw [hby]; omega) (by omega)
  rw [hsz, Int.toNat_natCast] at hr
  have hfl : (List.replicate n zfile).flatten.length = n * 6 := by rw [flat6 (fun cs hc => by rw [(List.mem_replicate.1 hc).2]; rfl), List.length_replicate]
  refine hard_rule (by simp only [execOp, H, hx, hy, Sem.run_bind, hr, Result.andThen_ok]; rfl) (hh _ _ ((Keep.refl _ _).alloc _) ⟨hfl, .inr ⟨w.heap.size, n, _, rfl, Nat.le_refl _, heap_alloc_new w _, Nat.le_refl _, by unfold maxLen; omega, by simp [size_madeCells], ?_⟩⟩)
  rw [made6, List.take_of_length_le (by rw [hfl]; exact Nat.le_refl _)]
set_option maxHeartbeats 1000000 in
theorem rs_new {M : Nat} {P I : List Bool} (h : RM G 8 w M P I) : Calls Tryz.prog 38 #[.pointer (some ⟨M, 0, none⟩)] w (Ret fun v w' => ∃ r G', v = .pointer (some ⟨r, 0, none⟩) ∧ RS G' w' r I.length ∧ Ext0 G w G' w') := by
  have h5 := h.i5
  apply enter38
  apply R_in
  simp (maxSteps := 1000000) (disch := omega) only [↓sy1, sy2, sy3, readOK, sy5, sy6, Nat.reduceEqDiff, ↓reduceIte, sy7, sy8, sy9, sya, oneOf, syb, syc, Nat.reduceAdd, Nat.reduceMul, syd, sye, syf, syg, syh, reduceCtorEq, F38]
  refine call0 (rinodes_spec h) ?_
  rintro _ w1 ⟨rfl, hw1⟩
  subst w1
  simp (maxSteps := 1000000) (disch := omega) only [↓sy1, sy2, sy3, readOK, sy5, sy6, Nat.reduceEqDiff, ↓reduceIte, sy7, sy8, sy9, sya, oneOf, syb, syc, Nat.reduceAdd, Nat.reduceMul, syd, sye, syf, syg, syh, reduceCtorEq]
  refine mkF_rule (n := I.length) (by simp only [upd_at, Nat.reduceEqDiff, reduceIte, ev_tmp, ev_const, List.map_cons, List.map_nil]) (by simp only [upd_at, Nat.reduceEqDiff, reduceIte, ev_tmp, ev_const, List.map_cons, List.map_nil]) (by omega) ?_
  intro lv w1 hg1 hlv
  have hlc : isCell lv = true := (Has.own hlv).isCell
  have hg2 : Grow w1 (w1.alloc (.cells #[.pointer (some ⟨M, 0, none⟩), lv, .pointer none, .slice none 0 0] 102)) := (Keep.refl _ _).alloc _
  have hb2 := heap_alloc_new w1 (.cells #[.pointer (some ⟨M, 0, none⟩), lv, .pointer none, .slice none 0 0] 102)
  have hfl : fillF #[.pointer none, .slice none 0 0, .pointer none, .slice none 0 0] [(0, 1, .pointer (some ⟨M, 0, none⟩)), (1, 1, lv)] = some #[.pointer (some ⟨M, 0, none⟩), lv, .pointer none, .slice none 0 0] := by
    cases lv <;> first | rfl | cases hlc
  have hcl : (Value.agg #[.pointer (some ⟨M, 0, none⟩), lv, .pointer none, .slice none 0 0]).cells = #[.pointer (some ⟨M, 0, none⟩), lv, .pointer none, .slice none 0 0] := rfl
  simp (maxSteps := 1000000) (disch := omega) only [↓sy1, sy2, sy3, readOK, sy5, sy6, Nat.reduceEqDiff, ↓reduceIte, sy7, sy8, sy9, sya, oneOf, syb, syc, Nat.reduceAdd, Nat.reduceMul, syd, sye, syf, syg, syh, reduceCtorEq, fill_gen, hfl, hcl]
  have hx2 : Ext0 G w (G.upto w.heap.size (fun b => if b = w1.heap.size then 11 else 0) (fun _ => 0)) (w1.alloc (.cells #[.pointer (some ⟨M, 0, none⟩), lv, .pointer none, .slice none 0 0] 102)) := .upto (hg1.trans hg2) _ _
  have hs1 := hg1.size
  have ho2 : (G.upto w.heap.size (fun b => if b = w1.heap.size then 11 else 0) (fun _ => 0)).own w1.heap.size = 11 ∧ (G.upto w.heap.size (fun b => if b = w1.heap.size then 11 else 0) (fun _ => 0)).fix w1.heap.size = 0 := by simp [Gh.upto, Nat.not_lt.2 hs1]
  have hrow : ∀ b, lv.ownBlock = some b → (G.upto w.heap.size (fun b => if b = w1.heap.size then 11 else 0) (fun _ => 0)).own b = 0 := fun b hb => by
    have := World.ownsRow.lt hlv b hb
    simp [Gh.upto, Nat.not_lt.2 this.1, show b ≠ w1.heap.size from by omega]
  generalize (G.upto w.heap.size (fun b => if b = w1.heap.size then 11 else 0) (fun _ => 0)) = G2 at hx2 ho2 hrow
  have hsz2 : (w1.alloc (.cells #[.pointer (some ⟨M, 0, none⟩), lv, .pointer none, .slice none 0 0] 102)).heap.size = w1.heap.size + 1 := by simp
  have hlv2 : Has 6 (w1.alloc (.cells #[.pointer (some ⟨M, 0, none⟩), lv, .pointer none, .slice none 0 0] 102)) lv (List.replicate I.length zfile).flatten := (Has.own hlv).grow hg2
  generalize (w1.alloc (.cells #[.pointer (some ⟨M, 0, none⟩), lv, .pointer none, .slice none 0 0] 102)) = w2 at hg2 hb2 hx2 hsz2 hlv2 ⊢
  have hR0 : RS0 G2 w2 w1.heap.size I.length := ⟨ho2.1, ho2.2, M, lv, _, _, P, I, hb2, h.ext hx2 id id, rfl, List.replicate I.length zfile, by simp, ⟨hlv2, fun b hb _ => ⟨by have := (World.ownsRow.lt hlv b hb).2; omega, hrow b hb⟩⟩, fun cs hc => by rw [(List.mem_replicate.1 hc).2]; exact RF.zero _ _⟩
  refine call0 (rs_commit hR0) ?_
  rintro _ w3 ⟨G3, hR3, hx3, hk3, hg3⟩
  simp (maxSteps := 1000000) (disch := omega) only [↓sy1, sy2, sy3, readOK, sy5, sy6, Nat.reduceEqDiff, ↓reduceIte, sy7, sy8, sy9, sya, oneOf, syb, syc, Nat.reduceAdd, Nat.reduceMul, syd, sye, syf, syg, syh, reduceCtorEq]
  refine R_out ⟨w1.heap.size, G3, rfl, hR3, ?_⟩
  have hg03 : Grow w w3 := (hg1.trans hg2).then hk3 (fun b hb hh => by omega)
  exact .ofGrow hg03 (fun b hb => ((hg3 b (by omega)).1).trans (hx2.own b hb)) (fun b hb => ((hg3 b (by omega)).2).trans (hx2.fixe b hb id))
end
end Go.Proofs.YtddiikeepncakaaGreat

/- Inodes on so many pages; the deeds' bytes; what must be whatever is asked. -/
namespace Go.Proofs.YtddiikeepncakaaGreat
open Go
set_option linter.unusedSimpArgs false
open Go.RowKit (intOf)
/-- Whatever is no one's own. -/
abbrev KN : Nat → Prop := fun x => x ≠ 0
theorem KN.of {K : Nat → Prop} (h : ¬ K 0) : ∀ x, K x → KN x := fun x hx hh => h (hh ▸ hx)
/-- A new cache of so many pages. -/
def ic (pages most : Nat) : Csh := Csh.new (Dsk.zero (pages + 101)) 100 most
theorem ic_N (pages most : Nat) : (ic pages most).N = pages := by show (Dsk.zero (pages + 101)).first.length - 100 - 1 = pages; rw [zero_len]; omega
theorem ic_dirty (pages most : Nat) : (ic pages most).dirty = [] := Csh.new_dirty _ _ _
theorem ic_cap (pages most : Nat) : (ic pages most).cap = 100 := rfl
theorem ic_ops (pages most : Nat) : (ic pages most).D.ops.length = 0 := rfl
theorem upto1_false {n N i : Nat} (h : n ≤ i) : (upto1 n N)[i]? ≠ some true := by
  intro hh
  have hlt := (List.getElem?_eq_some_iff.1 hh).1
  rw [upto1_length] at hlt
  rw [upto1_get hlt, decide_eq_false (by omega)] at hh
  cases hh
/-- No inode. -/
theorem fs_none {c : Csh} {k : Nat} (h : Alc c (upto1 (3 + k / 8) c.N) (upto1 1 k)) : FsOk c (upto1 (3 + k / 8) c.N) (upto1 1 k) (fun _ => none) (fun _ => []) := by
  refine ⟨h, ⟨fun i o h => (by cases h), fun i h1 h2 => absurd h2 (upto1_false h1), fun i o n h => (by cases h), fun i j o o' n h => (by cases h), fun i o h => (by cases h), fun n hn hP => ?_⟩, fun i o h => (by cases h), fun i o h => (by cases h)⟩
  rw [upto1_length] at hn
  exact absurd hP (upto1_false hn)
/-- Inodes of a map that was just made, and committed. -/
structure Fresh6 (G : Gh) (w : World) (s m p lq pages k : Nat) (c : Csh) : Prop where
  ino : Ino G 2 7 w s m p lq 0 c (upto1 (3 + k / 8) pages) (upto1 1 k) (fun _ => none) (fun _ => [])
  N : c.N = pages
  cap : c.cap = 100
  dirty : c.dirty = []
  ops : c.D.ops.length ≤ 206
set_option maxHeartbeats 4000000 in
theorem opened_spec {w : World} {pages : Nat} (h1 : 6 ≤ pages) (h2 : pages ≤ 3900) :
    Calls Tryz.prog 12 #[.int .i64 pages] w (Ret fun v w' => ∃ s r m p lq c G', v = .tuple #[.pointer (some ⟨s, 0, none⟩), .pointer (some ⟨r, 0, none⟩), .bool true] ∧ Fresh6 G' w' s m p lq pages 16 c ∧ RS G' w' r 16 ∧ Ext KN G00 w G' w') := by
  have hmay : mayA pages ((16 : Nat) : Int) := by unfold mayA; omega
  apply enter12
  apply R_in
  simp (maxSteps := 1000000) (disch := omega) only [↓sy1, sy2, sy3, readOK, sy5, sy6, Nat.reduceEqDiff, ↓reduceIte, sy7, sy8, sy9, sya, oneOf, syb, syc, Nat.reduceAdd, Nat.reduceMul, syd, sye, syf, syg, syh, reduceCtorEq, F12]
  rw [show (pages : Int) + 101 = ((pages + 101 : Nat) : Int) from by omega]
  refine call0 (new_spec G00 1 (n := pages + 101) (by omega) (by omega)) ?_
  rintro _ w1 ⟨p0, G1, rfl, hp1, hd1, hx1⟩
  simp (maxSteps := 1000000) (disch := omega) only [↓sy1, sy2, sy3, readOK, sy5, sy6, Nat.reduceEqDiff, ↓reduceIte, sy7, sy8, sy9, sya, oneOf, syb, syc, Nat.reduceAdd, Nat.reduceMul, syd, sye, syf, syg, syh, reduceCtorEq]
  refine call0 (open_spec (size := 100) 2 (by omega) hd1 (by omega) (by rw [zero_len]; omega) (.inl (zero_image (by omega)))) ?_
  rintro _ w2 ⟨lq, G2, rfl, hq2, hl2, hx2⟩
  simp (maxSteps := 1000000) (disch := omega) only [↓sy1, sy2, sy3, readOK, sy5, sy6, Nat.reduceEqDiff, ↓reduceIte, sy7, sy8, sy9, sya, oneOf, syb, syc, Nat.reduceAdd, Nat.reduceMul, syd, sye, syf, syg, syh, reduceCtorEq]
  refine call0 (cnew_spec (most := 16) 7 (by omega) (by omega) hl2 (zero_flat _) (zero_calm (by omega)) (by omega) (by omega)) ?_
  rintro _ w3 ⟨p, G3, rfl, hp3, hc3, hx3⟩
  simp (maxSteps := 1000000) (disch := omega) only [↓sy1, sy2, sy3, readOK, sy5, sy6, Nat.reduceEqDiff, ↓reduceIte, sy7, sy8, sy9, sya, oneOf, syb, syc, Nat.reduceAdd, Nat.reduceMul, syd, sye, syf, syg, syh, reduceCtorEq]
  have hN := ic_N pages 16
  have hdr := ic_dirty pages 16
  have hcap := ic_cap pages 16
  have hops := ic_ops pages 16
  have hc3' : CacheS G3 2 7 w3 p lq 0 (ic pages 16) := hc3.s
  generalize ic pages 16 = c0 at hN hdr hcap hops hc3'
  refine call0 (make_ok hc3' (by omega) (k := 16) (by rw [hN]; exact hmay) (by rw [hdr, hcap]; simp)) ?_
  rintro _ w4 ⟨m, G4, c4, rfl, hm4, h4, hst4, hx4⟩
  obtain ⟨t1, t2, t3, t4, t5⟩ := hst4
  rw [← t1] at h4
  simp (maxSteps := 1000000) (disch := omega) only [↓sy1, sy2, sy3, readOK, sy5, sy6, Nat.reduceEqDiff, ↓reduceIte, sy7, sy8, sy9, sya, oneOf, syb, syc, Nat.reduceAdd, Nat.reduceMul, syd, sye, syf, syg, syh, reduceCtorEq]
  refine call0 (inew_spec G4 w4 m) ?_
  rintro _ w5 ⟨s, G5, rfl, hs5, hso5, hx5⟩
  have h5 := h4.ext hx5 id id id
  simp (maxSteps := 1000000) (disch := omega) only [↓sy1, sy2, sy3, readOK, sy5, sy6, Nat.reduceEqDiff, ↓reduceIte, sy7, sy8, sy9, sya, oneOf, syb, syc, Nat.reduceAdd, Nat.reduceMul, syd, sye, syf, syg, syh, reduceCtorEq]
  refine call0 (rmake_spec (N := pages) (k := 16) G5 8 (by omega) hmay) ?_
  rintro _ w6 ⟨r0, G6, rfl, hr6, hx6⟩
  have h6 := h5.ext hx6 id id id
  have hso6 := hso5.ext hx6 id
  simp (maxSteps := 1000000) (disch := omega) only [↓sy1, sy2, sy3, readOK, sy5, sy6, Nat.reduceEqDiff, ↓reduceIte, sy7, sy8, sy9, sya, oneOf, syb, syc, Nat.reduceAdd, Nat.reduceMul, syd, sye, syf, syg, syh, reduceCtorEq, decide_true, not_true_eq_false, decide_false]
  refine call0 (mcommit_ok h6 (by rw [t2]; omega)) ?_
  rintro _ w7 ⟨rfl, G7, hx7, h7⟩
  have hcf := commit_facts h6.1.cache.oks
  obtain ⟨q1, q2, q3, q4, q5⟩ := hcf
  have hso7 := hso6.ext hx7 (by omega)
  have hr7 := hr6.ext hx7 (by omega) (by omega)
  have hfs := (fs_none h6.2).commit h6.1.cache.oks
  simp (maxSteps := 1000000) (disch := omega) only [↓sy1, sy2, sy3, readOK, sy5, sy6, Nat.reduceEqDiff, ↓reduceIte, sy7, sy8, sy9, sya, oneOf, syb, syc, Nat.reduceAdd, Nat.reduceMul, syd, sye, syf, syg, syh, reduceCtorEq, decide_true, not_true_eq_false, decide_false]
  refine call0 (rs_new hr7) ?_
  rintro _ w8 ⟨r, G8, rfl, hR8, hx8⟩
  simp (maxSteps := 1000000) (disch := omega) only [↓sy1, sy2, sy3, readOK, sy5, sy6, Nat.reduceEqDiff, ↓reduceIte, sy7, sy8, sy9, sya, oneOf, syb, syc, Nat.reduceAdd, Nat.reduceMul, syd, sye, syf, syg, syh, reduceCtorEq]
  have hN4 : c4.N = pages := by rw [t1, hN]
  rw [hN4] at h7 hfs
  rw [upto1_length] at hR8 hfs
  refine R_out ⟨s, r, m, p, lq, c4.commit, G8, rfl, ⟨⟨h7.ext hx8 id id id, hso7.ext hx8 id, hfs.1, by rw [upto1_length]; exact hfs.2⟩, by rw [q1, hN4], by rw [q3, t4, hcap], q2, by rw [t2, hops] at q5; exact q5⟩, hR8, ?_⟩
  exact (((((((hx1.mono (fun _ h => h.elim)).trans (hx2.mono (fun _ h => h.elim))).trans (hx3.mono (fun _ h => h.elim))).trans (hx4.mono (KN.of (by omega)))).trans (hx5.mono (fun _ h => h.elim))).trans (hx6.mono (fun _ h => h.elim))).trans (hx7.mono (KN.of (by omega)))).trans (hx8.mono (fun _ h => h.elim))
end Go.Proofs.YtddiikeepncakaaGreat

/- What must be whatever is asked. -/
namespace Go.Proofs.YtddiikeepncakaaGreat
open Go
set_option linter.unusedSimpArgs false
open Go.RowKit (intOf)
/-- A row of one byte. -/
theorem lit1 (G : Gh) (w : World) (x : UInt8) (o : Nat) : ∃ G', HasB (w.alloc (.cells #[.int .u8 (x.toNat : Int)] 5)) (.slice (some ⟨w.heap.size, 0, none⟩) 1 1) [x] ∧ (∀ b, (Value.slice (some ⟨w.heap.size, 0, none⟩) 1 1).ownBlock = some b → b < (w.alloc (.cells #[.int .u8 (x.toNat : Int)] 5)).heap.size ∧ G'.own b = o) ∧ Ext0 G w G' (w.alloc (.cells #[.int .u8 (x.toNat : Int)] 5)) := by
  have hg : Grow w (w.alloc (.cells #[.int .u8 (x.toNat : Int)] 5)) := (Keep.refl _ _).alloc _
  refine ⟨G.upto w.heap.size (fun _ => o) (fun _ => 0), Has.new1, fun b hb => ?_, .upto hg _ _⟩
  have hb' : w.heap.size = b := Option.some.inj hb
  subst hb'
  exact ⟨by simp, (upto_own (Nat.le_refl _)).1⟩
theorem noRoom_no {c : Csh} {free want most : Nat} (h : NoRoom c free want most) (hN : c.N ≤ c.cap) (hf : want ≤ free) : False := by
  rcases h with h | ⟨h, _⟩ <;> omega
/-- Struct of fifteen cells that is kept. -/
theorem store15 {G : Gh} {w : World} {cs : List Value} (hl : cs.length = 15) (hc : ∀ u ∈ cs, isCell u = true) : ∃ w' G', stnF (w.alloc (.cells (Value.agg (Array.replicate 15 (.int .i64 0))).cells 46)) 15 (.pointer (some ⟨w.heap.size, 0, none⟩)) (.agg cs.toArray) = some (undef, w') ∧ w'.heap[w.heap.size]? = some (.cells cs.toArray 46 (0, 0)) ∧ G'.own w.heap.size = 0 ∧ Ext0 G w G' w' := by
  have hg : Grow w (w.alloc (.cells (Value.agg (Array.replicate 15 (.int .i64 0))).cells 46)) := (Keep.refl _ _).alloc _
  obtain ⟨w4, hs4, hb4, hk4⟩ := storeN_cells cs _ _ 0 (heap_alloc_new w (.cells (Value.agg (Array.replicate 15 (.int .i64 0))).cells 46)) (by rw [hl]; simp [Value.cells]) hc
  refine ⟨w4, G.upto w.heap.size (fun _ => 0) (fun _ => 0), ?_, ?_, (upto_own (Nat.le_refl _)).1, .upto (hg.then hk4 (fun b hb hh => by omega)) _ _⟩
  · simp only [stnF, Value.cells, List.size_toArray, hl, if_true]
    exact congrArg (Option.map fun w => (undef, w)) hs4
  · rw [hb4]
    simp only [List.take_zero, List.nil_append]
    rw [List.drop_eq_nil_of_le (by rw [hl]; simp [Value.cells]), List.append_nil]
theorem take15_len (o : Opn) : (o.cells.take 15).length = 15 := by rw [List.length_take, Opn.cells_length]; rfl
theorem take15_cell (o : Opn) : ∀ u ∈ o.cells.take 15, isCell u = true := fun u hu => o.cells_one u (List.mem_of_mem_take hu)
theorem take15_at (o : Opn) {j : Nat} (h : j < 15) : (o.cells.take 15)[j]? = some (.int .i64 (o.cell j)) := by
  rw [List.getElem?_take, if_pos h, o.cells_get (by omega)]
theorem lookC_ok {F : Nat → Option Opn} {k j : Nat} {o : Opn} (h1 : 1 ≤ j) (h2 : j < k) (hF : F j = some o) : lookC F k j = 0 ∧ lookO F k j = o := by
  have hno : ¬ ((j : Int) < 1 ∨ (k : Int) ≤ (j : Int)) := by omega
  refine ⟨?_, ?_⟩
  · unfold lookC
    rw [if_neg hno, Int.toNat_natCast, hF]; rfl
  · unfold lookO
    rw [if_neg hno, Int.toNat_natCast, hF]; rfl
set_option maxRecDepth 20000 in
set_option maxHeartbeats 4000000 in
theorem live6_spec (w : World) : Calls Tryz.prog 9 #[] w (Ret fun v w' => v = .bool true ∧ Grow w w') := by
  apply enter9
  apply R_in
  simp (maxSteps := 1000000) (disch := omega) only [↓sy1, sy2, sy3, readOK, sy5, sy6, Nat.reduceEqDiff, ↓reduceIte, sy7, sy8, sy9, sya, oneOf, syb, syc, Nat.reduceAdd, Nat.reduceMul, syd, sye, syf, syg, syh, reduceCtorEq, F9]
  refine call0 (opened_spec (pages := 40) (by omega) (by omega)) ?_
  rintro _ w1 ⟨s, r, m, p, lq, c, G1, rfl, hf, hR, hx1⟩
  obtain ⟨h1, hN, hcap, hdr, hops⟩ := hf
  rw [show upto1 (3 + 16 / 8) 40 = upto1 5 40 from rfl] at h1
  simp (maxSteps := 1000000) (disch := omega) only [↓sy1, sy2, sy3, readOK, sy5, sy6, Nat.reduceEqDiff, ↓reduceIte, sy7, sy8, sy9, sya, oneOf, syb, syc, Nat.reduceAdd, Nat.reduceMul, syd, sye, syf, syg, syh, reduceCtorEq]
  refine call0 (imake_spec h1 (kd := 1) (md := 420)) ?_
  rintro _ w2 ⟨G2, hx2, hM⟩
  have hmk : mkC 1 420 = 0 := by unfold mkC; rw [if_pos (by omega)]
  have hfI : firstN (upto1 1 16) = 1 := firstN_upto (by omega)
  rcases hM with ⟨h0, _⟩ | ⟨_, rfl, c2, h2, _, hd2⟩ | ⟨_, _, _, hno⟩
  · exact absurd hmk h0
  rotate_left
  · exact (noRoom_no hno (by omega) (by rw [freeN_upto (by omega)]; omega)).elim
  rw [hfI, show (upto1 1 16).set 1 true = upto1 2 16 from upto1_set (by omega)] at h2
  rw [hfI]
  generalize hF2 : upF (fun _ => none) 1 (some (Opn.new (1 : Int).toNat (420 : Int).toNat 1)) = F2 at h2
  generalize upB (fun _ => []) 1 [] = B2 at h2
  have hF21 : F2 1 = some (Opn.new 1 420 1) := by rw [← hF2, upF_same]; rfl
  obtain ⟨G3, hrow3, hown3, hx3⟩ := lit1 G2 w2 97 0
  have h3 := h2.ext hx3 id id id
  have hro3 : RowO (KW 2 7) G3 (w2.alloc (.cells #[.int .u8 ((97 : UInt8).toNat : Int)] 5)) (.slice (some ⟨w2.heap.size, 0, none⟩) 1 1) [97] := ⟨hrow3, fun b hb => ⟨(hown3 b hb).1, by rw [(hown3 b hb).2]; unfold KW; omega⟩⟩
  have h97 : ((97 : UInt8).toNat : Int) = 97 := rfl
  rw [h97] at hx3 h3 hro3
  simp (maxSteps := 1000000) (disch := omega) only [↓sy1, sy2, sy3, readOK, sy5, sy6, Nat.reduceEqDiff, ↓reduceIte, sy7, sy8, sy9, sya, oneOf, syb, syc, Nat.reduceAdd, Nat.reduceMul, syd, sye, syf, syg, syh, reduceCtorEq, fill_one, oneF_int]
  generalize w2.alloc (.cells #[.int .u8 97] 5) = w3 at hx3 h3 hro3 ⊢
  refine call0 (iwrite_file_spec h3 (i := 1) (pos := 5120) hro3 (by simp) (by omega)) ?_
  rintro _ w4 ⟨G4, hx4, hW⟩
  have hlk := lookC_ok (k := 16) (j := 1) (by omega) (by omega) hF21
  have hwc : wrC F2 (upto1 2 16).length 1 5120 [(97 : UInt8)].length = 0 := by
    unfold wrC
    rw [upto1_length, show (1 : Int) = ((1 : Nat) : Int) from rfl, hlk.1, if_neg (by simp), if_neg (by omega), if_neg (by simp)]
  have hneed : needN 5121 = 12 := by decide
  rcases hW with ⟨h0, _⟩ | ⟨_, h0, _⟩ | ⟨_, _, j, o, n, hj, hn, hFo, hT⟩
  · exact absurd hwc h0
  · cases h0
  have hj1 : j = 1 := by omega
  have hn1 : n = 5120 := by omega
  subst hj1; subst hn1
  rw [hF21] at hFo
  have ho := Option.some.inj hFo
  have hos : o.size = 0 := by rw [← ho]; rfl
  rw [hos] at hT
  have hmax : max 0 (5120 + [(97 : UInt8)].length) = 5121 := rfl
  rw [hmax, hneed, show needN 0 = 0 from rfl] at hT
  have hcap2 : c2.cap = c.cap := hd2.cap
  have hN2 := hd2.N
  rcases hT with ⟨rfl, c5, P5, I5, F5, B5, h5, hn5, hI5, ⟨rfl, o5, rfl, rfl, hs5, _, _, _, _, _⟩, _⟩ | ⟨_, _, hno, _⟩
  rotate_left
  · exact (noRoom_no hno (by omega) (by rw [freeN_upto (by omega)]; omega)).elim
  have hF5 : upF F2 1 (some o5) 1 = some o5 := upF_same
  have hlk5 := lookC_ok (k := 16) (j := 1) (by omega) (by omega) hF5
  simp (maxSteps := 1000000) (disch := omega) only [↓sy1, sy2, sy3, readOK, sy5, sy6, Nat.reduceEqDiff, ↓reduceIte, sy7, sy8, sy9, sya, oneOf, syb, syc, Nat.reduceAdd, Nat.reduceMul, syd, sye, syf, syg, syh, reduceCtorEq]
  refine call0 (iget_spec h5 (i := 1)) ?_
  rintro _ w6 ⟨rfl, G6, hx6, h6⟩
  rw [upto1_length, show (1 : Int) = ((1 : Nat) : Int) from rfl, hlk5.1, hlk5.2]
  obtain ⟨w7, G7, st7, hb7, ho7, hx7⟩ := store15 (G := G6) (w := w6) (take15_len o5) (take15_cell o5)
  have h7 := h6.ext hx7 id id id
  simp (maxSteps := 1000000) (disch := omega) only [↓sy1, sy2, sy3, readOK, sy5, sy6, Nat.reduceEqDiff, ↓reduceIte, sy7, sy8, sy9, sya, oneOf, syb, syc, Nat.reduceAdd, Nat.reduceMul, syd, sye, syf, syg, syh, reduceCtorEq, st7]
  refine call0 (ipages_file_spec (ρ := 9) h7 (by omega) (i := 1)) ?_
  rintro _ w8 ⟨u, G8, rfl, hu, _, hx8, h8⟩
  rw [upto1_length, show (1 : Int) = ((1 : Nat) : Int) from rfl, hlk5.1]
  have hpl : (pgB (upF F2 1 (some o5)) 16 ((1 : Nat) : Int)).length = 12 := by
    unfold pgB
    rw [if_neg (by rw [hlk5.1]; simp), hlk5.2, List.length_map, (h8.fs.ok 1 o5 hF5).own_len, hs5, hneed]
  have hlen : ∀ w', lenF w' 0 u = some (.int .i64 12) := fun w' => by
    have := (Has.own hu).lenI w'
    rw [upto1_length] at this
    rw [this]
    exact congrArg (fun n : Nat => some (Value.int .i64 n)) hpl
  have hb8 := hx8.heap hb7 (by rw [ho7]; omega)
  have hc3 : w8.cell? ⟨w6.heap.size, 3, none⟩ = some (.int .i64 5121) := by
    rw [cell_block hb8]
    have := take15_at o5 (j := 3) (by omega)
    rw [show o5.cell 3 = o5.size from rfl, hs5] at this
    simpa using this
  simp (maxSteps := 1000000) (disch := omega) only [↓sy1, sy2, sy3, readOK, sy5, sy6, Nat.reduceEqDiff, ↓reduceIte, sy7, sy8, sy9, sya, oneOf, syb, syc, Nat.reduceAdd, Nat.reduceMul, syd, sye, syf, syg, syh, reduceCtorEq, Int.reduceEq, decide_true, hlen, hc3]
  refine call0 (need_spec (n := 5121)) ?_
  rintro _ w9 ⟨rfl, hw9⟩
  subst w9
  have hnc : needC 5121 = 12 := by
    unfold needC
    rw [if_neg (by omega), show (5121 : Int).toNat = 5121 from rfl, hneed]; rfl
  simp (maxSteps := 1000000) (disch := omega) only [↓sy1, sy2, sy3, readOK, sy5, sy6, Nat.reduceEqDiff, ↓reduceIte, sy7, sy8, sy9, sya, oneOf, syb, syc, Nat.reduceAdd, Nat.reduceMul, syd, sye, syf, syg, syh, reduceCtorEq, hnc, decide_true]
  refine R_out (Ext.toGrow (κ := KN) (G' := G8) ?_ (by simp))
  exact ((((((hx1.trans (hx2.mono (KN.of (by unfold KW; omega)))).trans (hx3.mono (fun _ h => h.elim))).trans (hx4.mono (KN.of (by unfold KW; omega)))).trans (hx6.mono (KN.of (by omega)))).trans (hx7.mono (fun _ h => h.elim))).trans (hx8.mono (KN.of (by omega))))
end Go.Proofs.YtddiikeepncakaaGreat

/- A nil store answers so. -/
namespace Go.Proofs.YtddiikeepncakaaGreat
open Go Go.RowKit
set_option linter.unusedSimpArgs false
set_option maxRecDepth 100000
theorem openG (w : World) (o : Opn) : ∃ w', stnF (w.alloc (.cells (Value.agg (Array.replicate 144 (.int .i64 0))).cells 91)) 144 (.pointer (some ⟨w.heap.size, 0, none⟩)) (.agg o.cells.toArray) = some (undef, w') ∧ OpnAt w' w.heap.size o ∧ Grow w w' := by
  obtain ⟨w', G', h1, h2, _, h4⟩ := openO G00 w o
  exact ⟨w', h1, h2, h4.toGrow id⟩
theorem boxG (w : World) (v : Value) (t : TypeId) (hv : isCell v = true) : (w.alloc (.cells v.cells t)).cell? ⟨w.heap.size, 0, none⟩ = some v ∧ Grow w (w.alloc (.cells v.cells t)) := by
  obtain ⟨G', h1, h2⟩ := boxO G00 w v t 0 hv
  exact ⟨h1.cell, h2.toGrow id⟩
theorem load_nil {w : World} {i : Int} : Calls Tryz.prog 44 #[.pointer none, .int .i64 i] w (Ret fun v w' => v = .tuple #[.agg Opn.zero.cells.toArray, .int .i64 1] ∧ Grow w w') := by
  apply enterLoad
  apply R_in
  have hg0 : Grow w (w.alloc (.cells (Value.agg (Array.replicate 144 (.int .i64 0))).cells 91)) := (Keep.refl _ _).alloc _
  have hq0 := OpnAt.new w
  simp (maxSteps := 1000000) (disch := omega) only [↓sy1, sy2, sy3, readOK, sy5, sy6, Nat.reduceEqDiff, ↓reduceIte, sy7, sy8, sy9, sya, oneOf, syb, syc, Nat.reduceAdd, Nat.reduceMul, syd, sye, syf, syg, syh, reduceCtorEq, F44]
  generalize w.alloc (.cells (Value.agg (Array.replicate 144 (.int .i64 0))).cells 91) = w0 at hg0 hq0 ⊢
  obtain ⟨w2, hst, hq2, hk2⟩ := hq0.stn Opn.zero
  simp (maxSteps := 1000000) (disch := omega) only [↓sy1, sy2, sy3, readOK, sy5, sy6, Nat.reduceEqDiff, ↓reduceIte, sy7, sy8, sy9, sya, oneOf, syb, syc, Nat.reduceAdd, Nat.reduceMul, syd, sye, syf, syg, syh, reduceCtorEq, hq0.load, hst]
  exact R_out ⟨_, _, rfl, hq2.load, rfl, hg0.then hk2 (fun b hb hh => by omega)⟩
theorem inew_nil {w : World} : Calls Tryz.prog 28 #[.pointer none] w (Ret fun v w' => v = .tuple #[.pointer none, .int .i64 1] ∧ w' = w) := by
  apply enter28
  apply R_in
  simp (maxSteps := 1000000) (disch := omega) only [↓sy1, sy2, sy3, readOK, sy5, sy6, Nat.reduceEqDiff, ↓reduceIte, sy7, sy8, sy9, sya, oneOf, syb, syc, Nat.reduceAdd, Nat.reduceMul, syd, sye, syf, syg, syh, reduceCtorEq, F28]
  exact R_out trivial
theorem imap_nil {w : World} : Calls Tryz.prog 23 #[.pointer none] w (Ret fun v w' => v = .pointer none ∧ w' = w) := by
  apply enter23
  apply R_in
  simp (maxSteps := 1000000) (disch := omega) only [↓sy1, sy2, sy3, readOK, sy5, sy6, Nat.reduceEqDiff, ↓reduceIte, sy7, sy8, sy9, sya, oneOf, syb, syc, Nat.reduceAdd, Nat.reduceMul, syd, sye, syf, syg, syh, reduceCtorEq, F23]
  exact R_out trivial
theorem imake_nil {w : World} {kd md : Int} : Calls Tryz.prog 13 #[.pointer none, .int .i64 kd, .int .i64 md] w (Ret fun v w' => v = .tuple #[.int .i64 0, .int .i64 1] ∧ Grow w w') := by
  apply enterMake
  apply R_in
  obtain ⟨hb1, hg1⟩ := boxG w (.pointer none) 29 rfl
  simp (maxSteps := 1000000) (disch := omega) only [↓sy1, sy2, sy3, readOK, sy5, sy6, Nat.reduceEqDiff, ↓reduceIte, sy7, sy8, sy9, sya, oneOf, syb, syc, Nat.reduceAdd, Nat.reduceMul, syd, sye, syf, syg, syh, reduceCtorEq, F13]
  generalize hw1 : w.alloc (.cells (Value.pointer none).cells 29) = w1 at hb1 hg1 ⊢
  obtain ⟨_, hg2⟩ := boxG w1 (.int .i64 kd) 25 rfl
  generalize hw2 : w1.alloc (.cells (Value.int .i64 kd).cells 25) = w2 at hg2 ⊢
  obtain ⟨_, hg3⟩ := boxG w2 (.int .i64 md) 3 rfl
  generalize hw3 : w2.alloc (.cells (Value.int .i64 md).cells 3) = w3 at hg3 ⊢
  obtain ⟨G4, hf4, hx4⟩ := boxO G00 w3 (.int .i64 0) 3 6 rfl
  generalize hw4 : w3.alloc (.cells (Value.int .i64 0).cells 3) = w4 at hf4 hx4 ⊢
  have hg4 : Grow w3 w4 := hx4.toGrow id
  have hb4 := ((hg2.trans hg3).trans hg4).gcell hb1
  have hg04 := ((hg1.trans hg2).trans hg3).trans hg4
  obtain ⟨w5, st5, hf5, hx5, hk5⟩ := hf4.store (u := .int .i64 0) rfl
  have h30 : w.heap.size ≤ w3.heap.size := ((hg1.trans hg2).trans hg3).size
  simp (maxSteps := 1000000) (disch := omega) only [↓sy1, sy2, sy3, readOK, sy5, sy6, Nat.reduceEqDiff, ↓reduceIte, sy7, sy8, sy9, sya, oneOf, syb, syc, Nat.reduceAdd, Nat.reduceMul, syd, sye, syf, syg, syh, reduceCtorEq, hb4, st5]
  exact R_out ⟨_, _, rfl, hf5.cell, rfl, hg04.then hk5 (fun b hb hh => by omega)⟩
theorem iget_nil {w : World} {i : Int} : Calls Tryz.prog 19 #[.pointer none, .int .i64 i] w (Ret fun v w' => v = .tuple #[.agg (Opn.zero.cells.take 15).toArray, .int .i64 1] ∧ Grow w w') := by
  apply enterGet
  apply R_in
  have hg0 : Grow w (w.alloc (.cells (Value.agg (Array.replicate 15 (.int .i64 0))).cells 46)) := (Keep.refl _ _).alloc _
  have hb0 := heap_alloc_new w (.cells (Value.agg (Array.replicate 15 (.int .i64 0))).cells 46)
  simp (maxSteps := 1000000) (disch := omega) only [↓sy1, sy2, sy3, readOK, sy5, sy6, Nat.reduceEqDiff, ↓reduceIte, sy7, sy8, sy9, sya, oneOf, syb, syc, Nat.reduceAdd, Nat.reduceMul, syd, sye, syf, syg, syh, reduceCtorEq, F19]
  generalize w.alloc (.cells (Value.agg (Array.replicate 15 (.int .i64 0))).cells 46) = w1 at hg0 hb0 ⊢
  have hlt1 : w.heap.size < w1.heap.size := (Array.getElem?_eq_some_iff.1 hb0).1
  refine call0 (load_nil (i := i)) ?_
  rintro _ w2 ⟨rfl, hg2⟩
  have hb2 := hg2.gheap hb0
  have hs2 := hg2.size
  obtain ⟨w3, st3, hq3, hg3⟩ := openG w2 Opn.zero
  have hb3 := hg3.gheap hb2
  have hl15 : (Opn.zero.cells.take 15).length = 15 := take15_len _
  obtain ⟨w4, hs4, hb4, hk4⟩ := storeN_cells (Opn.zero.cells.take 15) w3 _ 0 hb3 (by rw [hl15]; simp [Value.cells]) (take15_cell _)
  have st4 : stnF w3 15 (.pointer (some ⟨w.heap.size, 0, none⟩)) (.agg (Opn.zero.cells.take 15).toArray) = some (undef, w4) := by
    simp only [stnF, Value.cells, List.size_toArray, hl15, if_true, hs4, Option.map_some]
  simp (maxSteps := 1000000) (disch := omega) only [↓sy1, sy2, sy3, readOK, sy5, sy6, Nat.reduceEqDiff, ↓reduceIte, sy7, sy8, sy9, sya, oneOf, syb, syc, Nat.reduceAdd, Nat.reduceMul, syd, sye, syf, syg, syh, reduceCtorEq, st3, hq3.load15, st4]
  have hbig : w4.heap[w.heap.size]? = some (.cells (Opn.zero.cells.take 15).toArray 46 (0, 0)) := by
    rw [hb4]
    simp only [List.take_zero, List.nil_append]
    rw [List.drop_eq_nil_of_le (by rw [hl15]; simp [Value.cells]), List.append_nil]
  have hl4 := loadN_cells (o := 0) hbig 15 0 (by simp [hl15])
  refine R_out ⟨_, _, rfl, hl4, ?_, ((hg0.trans hg2).trans hg3).then hk4 (fun b hb hh => by omega)⟩
  simp only [Nat.add_zero, List.drop_zero]
  rw [List.take_of_length_le (by rw [hl15]; exact Nat.le_refl _)]
theorem iread_nil {w : World} {i pos n : Int} : Calls Tryz.prog 16 #[.pointer none, .int .i64 i, .int .i64 pos, .int .i64 n] w (Ret fun v w' => v = .tuple #[.slice none 0 0, .int .i64 1] ∧ Grow w w') := by
  apply enter16
  apply R_in
  simp (maxSteps := 1000000) (disch := omega) only [↓sy1, sy2, sy3, readOK, sy5, sy6, Nat.reduceEqDiff, ↓reduceIte, sy7, sy8, sy9, sya, oneOf, syb, syc, Nat.reduceAdd, Nat.reduceMul, syd, sye, syf, syg, syh, reduceCtorEq, F16]
  refine call0 (load_nil (i := i)) ?_
  rintro _ w1 ⟨rfl, hg1⟩
  obtain ⟨w3, st3, hq3, hg3⟩ := openG w1 Opn.zero
  simp (maxSteps := 1000000) (disch := omega) only [↓sy1, sy2, sy3, readOK, sy5, sy6, Nat.reduceEqDiff, ↓reduceIte, sy7, sy8, sy9, sya, oneOf, syb, syc, Nat.reduceAdd, Nat.reduceMul, syd, sye, syf, syg, syh, reduceCtorEq, st3, Int.reduceEq, decide_false, not_false_eq_true, decide_true]
  exact R_out (hg1.trans hg3)
theorem iset_nil {w : World} {i a b : Int} : Calls Tryz.prog 18 #[.pointer none, .int .i64 i, .int .i64 a, .int .i64 b] w (Ret fun v w' => v = .int .i64 1 ∧ Grow w w') := by
  apply enter18
  apply R_in
  obtain ⟨hb1, hg1⟩ := boxG w (.pointer none) 29 rfl
  simp (maxSteps := 1000000) (disch := omega) only [↓sy1, sy2, sy3, readOK, sy5, sy6, Nat.reduceEqDiff, ↓reduceIte, sy7, sy8, sy9, sya, oneOf, syb, syc, Nat.reduceAdd, Nat.reduceMul, syd, sye, syf, syg, syh, reduceCtorEq, F18]
  generalize hw1 : w.alloc (.cells (Value.pointer none).cells 29) = w1 at hb1 hg1 ⊢
  simp (maxSteps := 1000000) (disch := omega) only [↓sy1, sy2, sy3, readOK, sy5, sy6, Nat.reduceEqDiff, ↓reduceIte, sy7, sy8, sy9, sya, oneOf, syb, syc, Nat.reduceAdd, Nat.reduceMul, syd, sye, syf, syg, syh, reduceCtorEq, hb1]
  refine call0 (load_nil (i := i)) ?_
  rintro _ w2 ⟨rfl, hg2⟩
  obtain ⟨w3, st3, hq3, hg3⟩ := openG w2 Opn.zero
  simp (maxSteps := 1000000) (disch := omega) only [↓sy1, sy2, sy3, readOK, sy5, sy6, Nat.reduceEqDiff, ↓reduceIte, sy7, sy8, sy9, sya, oneOf, syb, syc, Nat.reduceAdd, Nat.reduceMul, syd, sye, syf, syg, syh, reduceCtorEq, st3, Int.reduceEq, decide_false, not_false_eq_true, decide_true]
  exact R_out ((hg1.trans hg2).trans hg3)
theorem iresize_nil {w : World} {i a : Int} : Calls Tryz.prog 20 #[.pointer none, .int .i64 i, .int .i64 a] w (Ret fun v w' => v = .int .i64 1 ∧ Grow w w') := by
  apply enter20
  apply R_in
  obtain ⟨hb1, hg1⟩ := boxG w (.pointer none) 29 rfl
  simp (maxSteps := 1000000) (disch := omega) only [↓sy1, sy2, sy3, readOK, sy5, sy6, Nat.reduceEqDiff, ↓reduceIte, sy7, sy8, sy9, sya, oneOf, syb, syc, Nat.reduceAdd, Nat.reduceMul, syd, sye, syf, syg, syh, reduceCtorEq, F20]
  generalize hw1 : w.alloc (.cells (Value.pointer none).cells 29) = w1 at hb1 hg1 ⊢
  obtain ⟨_, hg0⟩ := boxG w1 (.int .i64 a) 3 rfl
  generalize hw2 : w1.alloc (.cells (Value.int .i64 a).cells 3) = w2 at hg0 ⊢
  simp (maxSteps := 1000000) (disch := omega) only [↓sy1, sy2, sy3, readOK, sy5, sy6, Nat.reduceEqDiff, ↓reduceIte, sy7, sy8, sy9, sya, oneOf, syb, syc, Nat.reduceAdd, Nat.reduceMul, syd, sye, syf, syg, syh, reduceCtorEq, hg0.gcell hb1]
  refine call0 (load_nil (i := i)) ?_
  rintro _ w3 ⟨rfl, hg2⟩
  obtain ⟨w4, st3, hq3, hg3⟩ := openG w3 Opn.zero
  simp (maxSteps := 1000000) (disch := omega) only [↓sy1, sy2, sy3, readOK, sy5, sy6, Nat.reduceEqDiff, ↓reduceIte, sy7, sy8, sy9, sya, oneOf, syb, syc, Nat.reduceAdd, Nat.reduceMul, syd, sye, syf, syg, syh, reduceCtorEq, st3, Int.reduceEq, decide_false, not_false_eq_true, decide_true]
  exact R_out (((hg1.trans hg0).trans hg2).trans hg3)
theorem idrop_nil {w : World} {i : Int} : Calls Tryz.prog 30 #[.pointer none, .int .i64 i] w (Ret fun v w' => v = .int .i64 1 ∧ Grow w w') := by
  apply enter30
  apply R_in
  obtain ⟨hb1, hg1⟩ := boxG w (.pointer none) 29 rfl
  simp (maxSteps := 1000000) (disch := omega) only [↓sy1, sy2, sy3, readOK, sy5, sy6, Nat.reduceEqDiff, ↓reduceIte, sy7, sy8, sy9, sya, oneOf, syb, syc, Nat.reduceAdd, Nat.reduceMul, syd, sye, syf, syg, syh, reduceCtorEq, F30]
  generalize hw1 : w.alloc (.cells (Value.pointer none).cells 29) = w1 at hb1 hg1 ⊢
  obtain ⟨hi2, hg0⟩ := boxG w1 (.int .i64 i) 3 rfl
  generalize hw2 : w1.alloc (.cells (Value.int .i64 i).cells 3) = w2 at hi2 hg0 ⊢
  simp (maxSteps := 1000000) (disch := omega) only [↓sy1, sy2, sy3, readOK, sy5, sy6, Nat.reduceEqDiff, ↓reduceIte, sy7, sy8, sy9, sya, oneOf, syb, syc, Nat.reduceAdd, Nat.reduceMul, syd, sye, syf, syg, syh, reduceCtorEq, hg0.gcell hb1, hi2]
  refine call0 (load_nil (i := i)) ?_
  rintro _ w3 ⟨rfl, hg2⟩
  obtain ⟨w4, st3, hq3, hg3⟩ := openG w3 Opn.zero
  simp (maxSteps := 1000000) (disch := omega) only [↓sy1, sy2, sy3, readOK, sy5, sy6, Nat.reduceEqDiff, ↓reduceIte, sy7, sy8, sy9, sya, oneOf, syb, syc, Nat.reduceAdd, Nat.reduceMul, syd, sye, syf, syg, syh, reduceCtorEq, st3, Int.reduceEq, decide_false, not_false_eq_true, decide_true]
  exact R_out (((hg1.trans hg0).trans hg2).trans hg3)
theorem iwrite_nil {w : World} {i pos : Int} : Calls Tryz.prog 15 #[.pointer none, .int .i64 i, .int .i64 pos, .slice none 0 0] w (Ret fun v w' => v = .int .i64 1 ∧ Grow w w') := by
  apply enter15
  apply R_in
  obtain ⟨hb1, hg1⟩ := boxG w (.pointer none) 29 rfl
  simp (maxSteps := 1000000) (disch := omega) only [↓sy1, sy2, sy3, readOK, sy5, sy6, Nat.reduceEqDiff, ↓reduceIte, sy7, sy8, sy9, sya, oneOf, syb, syc, Nat.reduceAdd, Nat.reduceMul, syd, sye, syf, syg, syh, reduceCtorEq, F15]
  generalize hw1 : w.alloc (.cells (Value.pointer none).cells 29) = w1 at hb1 hg1 ⊢
  obtain ⟨_, hg0⟩ := boxG w1 (.int .i64 pos) 3 rfl
  generalize hw2 : w1.alloc (.cells (Value.int .i64 pos).cells 3) = w2 at hg0 ⊢
  obtain ⟨_, hg4⟩ := boxG w2 (.slice none 0 0) 36 rfl
  generalize hw3 : w2.alloc (.cells (Value.slice none 0 0).cells 36) = w3 at hg4 ⊢
  simp (maxSteps := 1000000) (disch := omega) only [↓sy1, sy2, sy3, readOK, sy5, sy6, Nat.reduceEqDiff, ↓reduceIte, sy7, sy8, sy9, sya, oneOf, syb, syc, Nat.reduceAdd, Nat.reduceMul, syd, sye, syf, syg, syh, reduceCtorEq, (hg0.trans hg4).gcell hb1]
  refine call0 (load_nil (i := i)) ?_
  rintro _ w4 ⟨rfl, hg2⟩
  obtain ⟨w5, st3, hq3, hg3⟩ := openG w4 Opn.zero
  simp (maxSteps := 1000000) (disch := omega) only [↓sy1, sy2, sy3, readOK, sy5, sy6, Nat.reduceEqDiff, ↓reduceIte, sy7, sy8, sy9, sya, oneOf, syb, syc, Nat.reduceAdd, Nat.reduceMul, syd, sye, syf, syg, syh, reduceCtorEq, st3, Int.reduceEq, decide_false, not_false_eq_true, decide_true]
  exact R_out ((((hg1.trans hg0).trans hg4).trans hg2).trans hg3)
theorem ipages_in_nil {w : World} {i : Int} :
    CallsIn Fence.wide 10 Tryz.prog 29 #[.pointer none, .int .i64 i] w fun en w' => en = .returned (.tuple #[.slice none 0 0, .int .i64 1]) ∧ Grow w w' := by
  refine callsIn_of_wp_marks Tryz.func29 rfl trivial ?_
  have hinit : Rel 38 { tmps := #[.pointer none, .int .i64 i] ++ Array.replicate (Tryz.f29.ntmps - #[Value.pointer none, .int .i64 i].size) undef, defers := [] } (upd (upd env0 0 (.pointer none)) 1 (.int .i64 i)) := by
    have he : (upd (upd env0 0 (.pointer none)) 1 (.int .i64 i)) = initEnv [.pointer none, .int .i64 i] 0 env0 := rfl
    rw [he]
    refine ⟨by simp [Tryz.ntmps29], rfl, fun t => ?_⟩
    have hga := getD_args [.pointer none, .int .i64 i] (Tryz.f29.ntmps - #[Value.pointer none, .int .i64 i].size) t
    refine hga.trans ?_
    simp only [initEnv_get, Nat.zero_add, Nat.zero_le, true_and, Nat.sub_zero]
    split
    · rfl
    · rename_i hlt
      rw [List.getD_eq_getElem?_getD, List.getElem?_eq_none (by omega)]; rfl
  refine sym_step (s := sgA) (by kernel_rfl) (by kernel_rfl) hinit ?_
  apply R_in
  simp (maxSteps := 1000000) (disch := omega) only [↓sy1, sy2, sy3, readOK, sy5, sy6, Nat.reduceEqDiff, ↓reduceIte, sy7, sy8, sy9, sya, oneOf, syb, syc, Nat.reduceAdd, Nat.reduceMul, syd, sye, syf, syg, syh, reduceCtorEq, sgA, F29]
  refine R_out fun a1 ha1 => ?_
  refine sym_step (s := sgB) (by kernel_rfl) (by kernel_rfl) ha1 ?_
  apply R_in
  simp (maxSteps := 1000000) (disch := omega) only [↓sy1, sy2, sy3, readOK, sy5, sy6, Nat.reduceEqDiff, ↓reduceIte, sy7, sy8, sy9, sya, oneOf, syb, syc, Nat.reduceAdd, Nat.reduceMul, syd, sye, syf, syg, syh, reduceCtorEq, sgB, F29]
  refine call0 (load_nil (i := i)) ?_
  rintro _ w1 ⟨rfl, hg1⟩
  obtain ⟨w2, st2, hq2, hg2⟩ := openG w1 Opn.zero
  simp (maxSteps := 1000000) (disch := omega) only [↓sy1, sy2, sy3, readOK, sy5, sy6, Nat.reduceEqDiff, ↓reduceIte, sy7, sy8, sy9, sya, oneOf, syb, syc, Nat.reduceAdd, Nat.reduceMul, syd, sye, syf, syg, syh, reduceCtorEq, st2]
  refine R_out fun a2 ha2 => ?_
  refine sym_step (s := sgC) (by kernel_rfl) (by kernel_rfl) ha2 ?_
  apply R_in
  simp (maxSteps := 1000000) (disch := omega) only [↓sy1, sy2, sy3, readOK, sy5, sy6, Nat.reduceEqDiff, ↓reduceIte, sy7, sy8, sy9, sya, oneOf, syb, syc, Nat.reduceAdd, Nat.reduceMul, syd, sye, syf, syg, syh, reduceCtorEq, sgC, F29, Int.reduceEq, decide_false, not_false_eq_true, decide_true]
  refine R_out fun a3 ha3 => ?_
  have ha := rel38 ha3
  simp only [upd, env0, Nat.reduceEqDiff, if_false, if_true] at ha
  subst ha
  refine ⟨_, results_tmp2 rfl _ _ _, ?_⟩
  have hfin : Ending.returned (Value.tuple #[.slice none 0 0, .int .i64 1]) = .returned (.tuple #[.slice none 0 0, .int .i64 1]) ∧ Grow w w2 := ⟨rfl, hg1.trans hg2⟩
  simpa using hfin
theorem ipages_nil {w : World} {i : Int} : Calls Tryz.prog 29 #[.pointer none, .int .i64 i] w (Ret fun v w' => v = .tuple #[.slice none 0 0, .int .i64 1] ∧ Grow w w') :=
  (callsIn_wide.1 ipages_in_nil).mono fun e w' ⟨he, h1⟩ => by
    subst he
    exact ⟨rfl, h1⟩
set_option maxHeartbeats 1000000 in
theorem inodeNone_walk {w : World} {n : Int} : Calls Tryz.prog 8 #[.int .i64 n] w (Ret fun v w' => v = .bool true ∧ Grow w w') := by
  apply enter8
  apply R_in
  simp (maxSteps := 1000000) (disch := omega) only [↓sy1, sy2, sy3, readOK, sy5, sy6, Nat.reduceEqDiff, ↓reduceIte, sy7, sy8, sy9, sya, oneOf, syb, syc, Nat.reduceAdd, Nat.reduceMul, syd, sye, syf, syg, syh, reduceCtorEq, F8]
  refine call0 inew_nil ?_
  rintro _ w1 ⟨rfl, rfl⟩
  simp (maxSteps := 1000000) (disch := omega) only [↓sy1, sy2, sy3, readOK, sy5, sy6, Nat.reduceEqDiff, ↓reduceIte, sy7, sy8, sy9, sya, oneOf, syb, syc, Nat.reduceAdd, Nat.reduceMul, syd, sye, syf, syg, syh, reduceCtorEq]
  refine call0 (imake_nil (kd := 1) (md := 1)) ?_
  rintro _ w2 ⟨rfl, hg2⟩
  simp (maxSteps := 1000000) (disch := omega) only [↓sy1, sy2, sy3, readOK, sy5, sy6, Nat.reduceEqDiff, ↓reduceIte, sy7, sy8, sy9, sya, oneOf, syb, syc, Nat.reduceAdd, Nat.reduceMul, syd, sye, syf, syg, syh, reduceCtorEq]
  refine call0 (iget_nil (i := n)) ?_
  rintro _ w3 ⟨rfl, hg3⟩
  obtain ⟨w4, G4, st4, _, _, hx4⟩ := store15 (G := G00) (w := w3) (take15_len Opn.zero) (take15_cell Opn.zero)
  have hg4 : Grow w3 w4 := hx4.toGrow id
  simp (maxSteps := 1000000) (disch := omega) only [↓sy1, sy2, sy3, readOK, sy5, sy6, Nat.reduceEqDiff, ↓reduceIte, sy7, sy8, sy9, sya, oneOf, syb, syc, Nat.reduceAdd, Nat.reduceMul, syd, sye, syf, syg, syh, reduceCtorEq, st4]
  refine call0 (iread_nil (i := n) (pos := n) (n := n)) ?_
  rintro _ w5 ⟨rfl, hg5⟩
  simp (maxSteps := 1000000) (disch := omega) only [↓sy1, sy2, sy3, readOK, sy5, sy6, Nat.reduceEqDiff, ↓reduceIte, sy7, sy8, sy9, sya, oneOf, syb, syc, Nat.reduceAdd, Nat.reduceMul, syd, sye, syf, syg, syh, reduceCtorEq]
  refine call0 (ipages_nil (i := n)) ?_
  rintro _ w6 ⟨rfl, hg6⟩
  simp (maxSteps := 1000000) (disch := omega) only [↓sy1, sy2, sy3, readOK, sy5, sy6, Nat.reduceEqDiff, ↓reduceIte, sy7, sy8, sy9, sya, oneOf, syb, syc, Nat.reduceAdd, Nat.reduceMul, syd, sye, syf, syg, syh, reduceCtorEq]
  refine call0 (live6_spec w6) ?_
  rintro _ w7 ⟨rfl, hg7⟩
  simp (maxSteps := 1000000) (disch := omega) only [↓sy1, sy2, sy3, readOK, sy5, sy6, Nat.reduceEqDiff, ↓reduceIte, sy7, sy8, sy9, sya, oneOf, syb, syc, Nat.reduceAdd, Nat.reduceMul, syd, sye, syf, syg, syh, reduceCtorEq, decide_true]
  refine call0 (iset_nil (i := n)) ?_
  rintro _ w8 ⟨rfl, hg8⟩
  simp (maxSteps := 1000000) (disch := omega) only [↓sy1, sy2, sy3, readOK, sy5, sy6, Nat.reduceEqDiff, ↓reduceIte, sy7, sy8, sy9, sya, oneOf, syb, syc, Nat.reduceAdd, Nat.reduceMul, syd, sye, syf, syg, syh, reduceCtorEq, decide_true]
  refine call0 (idrop_nil (i := n)) ?_
  rintro _ w9 ⟨rfl, hg9⟩
  simp (maxSteps := 1000000) (disch := omega) only [↓sy1, sy2, sy3, readOK, sy5, sy6, Nat.reduceEqDiff, ↓reduceIte, sy7, sy8, sy9, sya, oneOf, syb, syc, Nat.reduceAdd, Nat.reduceMul, syd, sye, syf, syg, syh, reduceCtorEq, decide_true]
  refine call0 (iwrite_nil (i := n)) ?_
  rintro _ w10 ⟨rfl, hg10⟩
  simp (maxSteps := 1000000) (disch := omega) only [↓sy1, sy2, sy3, readOK, sy5, sy6, Nat.reduceEqDiff, ↓reduceIte, sy7, sy8, sy9, sya, oneOf, syb, syc, Nat.reduceAdd, Nat.reduceMul, syd, sye, syf, syg, syh, reduceCtorEq, decide_true]
  refine call0 (iresize_nil (i := n)) ?_
  rintro _ w11 ⟨rfl, hg11⟩
  simp (maxSteps := 1000000) (disch := omega) only [↓sy1, sy2, sy3, readOK, sy5, sy6, Nat.reduceEqDiff, ↓reduceIte, sy7, sy8, sy9, sya, oneOf, syb, syc, Nat.reduceAdd, Nat.reduceMul, syd, sye, syf, syg, syh, reduceCtorEq, decide_true]
  refine call0 imap_nil ?_
  rintro _ w12 ⟨rfl, rfl⟩
  simp (maxSteps := 1000000) (disch := omega) only [↓sy1, sy2, sy3, readOK, sy5, sy6, Nat.reduceEqDiff, ↓reduceIte, sy7, sy8, sy9, sya, oneOf, syb, syc, Nat.reduceAdd, Nat.reduceMul, syd, sye, syf, syg, syh, reduceCtorEq, decide_true]
  exact R_out (((((((((hg2.trans hg3).trans hg4).trans hg5).trans hg6).trans hg7).trans hg8).trans hg9).trans hg10).trans hg11)
end Go.Proofs.YtddiikeepncakaaGreat

/- Changes of inodes where there is room; the deeds' bytes. -/
namespace Go.Proofs.YtddiikeepncakaaGreat
open Go
set_option linter.unusedSimpArgs false
open Go.RowKit (intOf)
section
variable {G : Gh} {κ μ m p lq came s j : Nat} {w : World} {c : Csh} {P I : List Bool} {F : Nat → Option Opn} {B : Nat → List UInt8} {o : Opn} {bv : Value} {d : List UInt8}
end
/-- A deed. -/
structure Deed6 where
  kind : Int
  i : Int
  at_ : Int
  n : Int
  node : Int
  mode : Int
  links : Int
  byte : UInt8
def Deed6.cells (x : Deed6) : List Value := [.int .i64 x.kind, .int .i64 x.i, .int .i64 x.at_, .int .i64 x.n, .int .i64 x.node, .int .i64 x.mode, .int .i64 x.links, .int .u8 (x.byte.toNat : Int)]
def Deed6.val (x : Deed6) : Value := .agg x.cells.toArray
def Deed6.len (x : Deed6) : Nat := if x.n < 0 ∨ 8000 < x.n then 8000 else x.n.toNat
def Deed6.data (x : Deed6) : List UInt8 := (List.range x.len).map fun i => x.byte + UInt8.ofNat (i % 251)
end Go.Proofs.YtddiikeepncakaaGreat

/- Arguments opened: rows of numbers, of bytes. What is only read reads as it did. -/
namespace Go.Proofs.YtddiikeepncakaaGreat
open Go
set_option linter.unusedSimpArgs false
open Go.RowKit Go.ChangeShapes Go.WideShapes Go.Deep Go.Joins
section
variable {H : Type} {enc : TypeId × Value → H} {w : World} {base : Nat} {spare : Nat → Bool} {held : Bool}
/-- What is only read reads as it did. -/
theorem argsStay {P : Program} {W W' : World} (hl : laidOutB P = true) (hb : Below W.heap.size W W') : ∀ {ts : List TypeId} {vs : List Value} {ds : List (DataW H)} {ps : List MemPlace}, (ts.all fun t => P.readableRec t && decide (t < P.types.size)) = true →
    DataW.TrodAll enc P W 0 (fun _ => true) true ts vs ds ps → (∀ x ∈ ps, x.block < W.heap.size) → DataW.TrodAll enc P W' 0 (fun b => decide (b < W.heap.size)) true ts vs ds ps
  | [], _, _, _, _, h, _ => by
    obtain ⟨rfl, rfl, rfl⟩ := trodAll_nil h
    exact trodAll_mk0
  | t :: ts, _, _, _, ht, h, hlt => by
    obtain ⟨v, vs, d, ds, p, q, rfl, rfl, rfl, h0, h1⟩ := trodAll_cons h
    simp only [List.all_cons, Bool.and_eq_true, decide_eq_true_eq] at ht
    exact trodAll_cons_mk (Below.trod hl ht.1.1 ht.1.2 h0 hb (fun x hx => hlt x (by simp [hx]))) (argsStay hl hb ht.2 h1 (fun x hx => hlt x (by simp [hx])))
end
end Go.Proofs.YtddiikeepncakaaGreat

/- Arguments opened: rows of groups of pages. -/
namespace Go.Proofs.YtddiikeepncakaaGreat
open Go
set_option linter.unusedSimpArgs false
open Go.RowKit Go.ChangeShapes Go.WideShapes Go.Deep Go.Joins
section
variable {H : Type} {enc : TypeId × Value → H} {w : World} {base : Nat} {spare : Nat → Bool} {held : Bool}
end
end Go.Proofs.YtddiikeepncakaaGreat

/- Arguments opened: a number of sixteen bits; two of them. -/
namespace Go.Proofs.YtddiikeepncakaaGreat
open Go
set_option linter.unusedSimpArgs false
open Go.RowKit Go.ChangeShapes Go.WideShapes Go.Deep Go.Joins
section
variable {H : Type} {enc : TypeId × Value → H}
end
end Go.Proofs.YtddiikeepncakaaGreat

/- Arguments opened: a deed, rows of deeds (law06). -/
namespace Go.Proofs.YtddiikeepncakaaGreat
open Go
set_option linter.unusedSimpArgs false
open Go.RowKit Go.ChangeShapes Go.WideShapes Go.Deep Go.Joins
/-- The numbers of a deed are 64 bits wide. -/
def Deed6.Ok (x : Deed6) : Prop := (-9223372036854775808 ≤ x.i ∧ x.i ≤ 9223372036854775807) ∧ (-9223372036854775808 ≤ x.at_ ∧ x.at_ ≤ 9223372036854775807) ∧ (-9223372036854775808 ≤ x.n ∧ x.n ≤ 9223372036854775807) ∧ (-9223372036854775808 ≤ x.node ∧ x.node ≤ 9223372036854775807) ∧ (-9223372036854775808 ≤ x.mode ∧ x.mode ≤ 9223372036854775807) ∧ (-9223372036854775808 ≤ x.links ∧ x.links ≤ 9223372036854775807)
section
variable {H : Type} {enc : TypeId × Value → H} {w : World} {base : Nat} {spare : Nat → Bool} {held : Bool}
end
end Go.Proofs.YtddiikeepncakaaGreat
