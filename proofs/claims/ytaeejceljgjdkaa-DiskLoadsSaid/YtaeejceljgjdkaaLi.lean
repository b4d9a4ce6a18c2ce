/- What must be whatever is asked: it holds. -/
import Derived.Test.YtaeejceljgjdkaaDe
namespace Go.Proofs.Ytaeejceljgjdkaa
open Go
set_option linter.unusedSimpArgs false
open Go.RowKit (intOf)
def G00 : Gh := ⟨fun _ => 0, fun _ => 0⟩
theorem Ext.toGrow {κ : Nat → Prop} {G' : Gh} {w w' : World} (h : Ext κ G00 w G' w') (hk : ¬ κ 0) : Grow w w' := ⟨h.os, h.tape, h.output, h.size, fun b hb _ => h.blk b hb hk⟩
theorem Ext.growG {G G' : Gh} {w w' : World} (h : Ext0 G w G' w') : Grow w w' := ⟨h.os, h.tape, h.output, h.size, fun b hb _ => h.blk b hb id⟩
abbrev Gh.new (G : Gh) (B : Nat) : Gh := G.upto B (fun _ => 0) (fun _ => 0)
theorem Ext.newB {K : Nat → Prop} {G : Gh} {w w' : World} (h : Grow w w') : Ext K G w (G.new w.heap.size) w' := .upto h _ _
theorem Gh.new_own {G : Gh} {B b : Nat} (h : B ≤ b) : (G.new B).own b = 0 := by simp [Gh.upto, Nat.not_lt.2 h]
theorem loadN4 {w : World} {p o : Nat} {a b c d : Value} (h0 : w.cell? ⟨p, o, none⟩ = some a) (h1 : w.cell? ⟨p, o + 1, none⟩ = some b) (h2 : w.cell? ⟨p, o + 2, none⟩ = some c) (h3 : w.cell? ⟨p, o + 3, none⟩ = some d) : loadN w ⟨p, o, none⟩ 0 4 = some [a, b, c, d] := by
  simp [loadN, add_lit, h0, h1, h2, h3]
theorem loadN4b {w : World} {p : Nat} {a b c d : Value} {t : TypeId} {f : Nat × Nat} (h : w.heap[p]? = some (.cells #[a, b, c, d] t f)) : loadN w ⟨p, 0, none⟩ 0 4 = some [a, b, c, d] :=
  loadN4 (by rw [cell_block h]; rfl) (by rw [cell_block h]; rfl) (by rw [cell_block h]; rfl) (by rw [cell_block h]; rfl)
theorem storeN_one {p i : Nat} {t : TypeId} {w : World} {cs : Array Value} {v : Value} (l : List Value) (h : w.heap[p]? = some (.cells cs t (0, 0))) (hi : i < cs.size) (hv : isCell v = true) :
    ∃ w', storeN w ⟨p, 0, none⟩ i (v :: l) = storeN w' ⟨p, 0, none⟩ (i + 1) l ∧ w'.heap[p]? = some (.cells (cs.setIfInBounds i v) t (0, 0)) ∧ Keep (fun b => b = p) w w' := by
  obtain ⟨w1, hst, hp1, hk1⟩ := cell_store (i := i) h hi hv
  refine ⟨w1, ?_, hp1, hk1⟩
  simp only [stF] at hst
  split at hst
  · rename_i hcond
    have hw : w.setCell ⟨p, i, none⟩ v = w1 := by simpa using hst
    simp only [storeN, add_lit, Nat.zero_add, hcond, if_true, hw]
  · cases hst
theorem stn4 {p : Nat} {t : TypeId} {w : World} {a b c d x y z u : Value} (h : w.heap[p]? = some (.cells #[a, b, c, d] t (0, 0))) (hx : isCell x = true) (hy : isCell y = true) (hz : isCell z = true) (hu : isCell u = true) :
    ∃ w', stnF w 4 (.pointer (some ⟨p, 0, none⟩)) (.agg #[x, y, z, u]) = some (undef, w') ∧ w'.heap[p]? = some (.cells #[x, y, z, u] t (0, 0)) ∧ Keep (fun b => b = p) w w' := by
  obtain ⟨w1, e1, h1, k1⟩ := storeN_one (i := 0) [y, z, u] h (by simp) hx
  obtain ⟨w2, e2, h2, k2⟩ := storeN_one (i := 1) [z, u] h1 (by simp) hy
  obtain ⟨w3, e3, h3, k3⟩ := storeN_one (i := 2) [u] h2 (by simp) hz
  obtain ⟨w4, e4, h4, k4⟩ := storeN_one (i := 3) [] h3 (by simp) hu
  refine ⟨w4, ?_, by simpa using h4, ((k1.trans k2).trans k3).trans k4⟩
  have he : storeN w ⟨p, 0, none⟩ 0 [x, y, z, u] = some w4 := by rw [e1, e2, e3, e4]; rfl
  simp [stnF, Value.cells, he]
theorem fillF_3of4 {a b c d x y z : Value} (hx : isCell x = true) (hy : isCell y = true) (hz : isCell z = true) : fillF #[a, b, c, d] [(1, 1, x), (2, 1, y), (3, 1, z)] = some #[a, x, y, z] := by
  rw [fillF_cell hx (by simp), fillF_cell hy (by simp), fillF_cell hz (by simp), fillF_nil]; simp
def liveX : Deed := ⟨false, 1, 512, 7⟩
def liveY : Deed := ⟨false, 1, 512, 8⟩
def liveD : Dsk := ((Dsk.zero 2).add (.wr 1 liveX.bytes)).add (.wr 1 liveY.bytes)
theorem liveD_wait : liveD.wait = fun m => if m = 1 then [liveX.bytes, liveY.bytes] else [] := by
  funext m
  simp only [liveD, Dsk.wait_wr, Dsk.zero, Dsk.wait_new]
  by_cases h : m = 1 <;> simp [h]
theorem liveD_waiting : liveD.waiting = [1] := by
  simp only [Dsk.waiting, liveD_wait]
  rfl
theorem liveD_writes : liveD.writes = [2] := by
  simp only [Dsk.writes, liveD_waiting, liveD_wait]; rfl
theorem live_spec (w : World) : Calls Try.prog 14 #[] w (Ret fun v w' => v = .bool true ∧ Grow w w') := by
  apply enter14
  apply R_in
  simp (disch := omega) only [F14, ↓sy1, sy2, sy3, readOK, implies_true, forall_const, Nat.reduceEqDiff, ↓reduceIte, Option.map_some, Option.map_none, List.map_cons, List.map_nil, oneOf, if_true, if_false, Nat.reduceAdd, Nat.reduceMul, Option.isNone_some, Option.isNone_none, List.getElem?_toArray, List.getElem?_cons_zero, List.getElem?_cons_succ, reduceCtorEq]
  refine call0 (new_spec G00 1 (n := 2) (by omega) (by omega)) ?_
  rintro _ w1 ⟨p, G1, rfl, hp1, hd1, hx1⟩
  simp (disch := omega) only [↓sy1, sy2, sy3, readOK, implies_true, forall_const, Nat.reduceEqDiff, ↓reduceIte, Option.map_some, Option.map_none, List.map_cons, List.map_nil, oneOf, if_true, if_false, Nat.reduceAdd, Nat.reduceMul, Option.isNone_some, Option.isNone_none, List.getElem?_toArray, List.getElem?_cons_zero, List.getElem?_cons_succ, reduceCtorEq, fill_gen, fillF_3of4 (a := .bool false) (b := .int .i64 0) (c := .int .i64 0) (d := .int .u8 0) (show isCell (.int .i64 1) = true from rfl) (show isCell (.int .i64 512) = true from rfl) (show isCell (.int .u8 7) = true from rfl),
    fillF_3of4 (a := .bool false) (b := .int .i64 0) (c := .int .i64 0) (d := .int .u8 0) (show isCell (.int .i64 1) = true from rfl) (show isCell (.int .i64 512) = true from rfl) (show isCell (.int .u8 8) = true from rfl)]
  have hga : Grow w1 (w1.alloc (.cells (Value.agg #[.bool false, .int .i64 0, .int .i64 0, .int .u8 0]).cells 43)) := (Keep.refl _ _).alloc _
  have hXa := heap_alloc_new w1 (.cells (Value.agg #[.bool false, .int .i64 0, .int .i64 0, .int .u8 0]).cells 43)
  have hsa : (w1.alloc (.cells (Value.agg #[.bool false, .int .i64 0, .int .i64 0, .int .u8 0]).cells 43)).heap.size = w1.heap.size + 1 := by simp
  generalize w1.alloc (.cells (Value.agg #[.bool false, .int .i64 0, .int .i64 0, .int .u8 0]).cells 43) = wa at hga hXa hsa ⊢
  have hgb : Grow wa (wa.alloc (.cells (Value.agg #[.bool false, .int .i64 0, .int .i64 0, .int .u8 0]).cells 43)) := (Keep.refl _ _).alloc _
  have hYb := heap_alloc_new wa (.cells (Value.agg #[.bool false, .int .i64 0, .int .i64 0, .int .u8 0]).cells 43)
  generalize wa.alloc (.cells (Value.agg #[.bool false, .int .i64 0, .int .i64 0, .int .u8 0]).cells 43) = wb at hgb hYb ⊢
  have hXb := hgb.gheap hXa
  generalize hbx : w1.heap.size = bx at hXb hsa ⊢
  generalize hby : wa.heap.size = by_ at hYb hsa ⊢
  obtain ⟨wc, hstx, hXc, hkc⟩ := stn4 (x := .bool false) (y := .int .i64 1) (z := .int .i64 512) (u := .int .u8 7) hXb rfl rfl rfl rfl
  have hYc : wc.heap[by_]? = _ := hkc.heap hYb (by omega)
  obtain ⟨wd, hsty, hYd, hkd⟩ := stn4 (x := .bool false) (y := .int .i64 1) (z := .int .i64 512) (u := .int .u8 8) hYc rfl rfl rfl rfl
  have hXd : wd.heap[bx]? = _ := hkd.heap hXc (by omega)
  have hgd : Grow w1 wd := ((hga.trans hgb).then hkc (fun b hb h => by omega)).then hkd (fun b hb h => by omega)
  simp (disch := omega) only [↓sy1, sy2, sy3, readOK, implies_true, forall_const, Nat.reduceEqDiff, ↓reduceIte, Option.map_some, Option.map_none, List.map_cons, List.map_nil, oneOf, if_true, if_false, Nat.reduceAdd, Nat.reduceMul, Option.isNone_some, Option.isNone_none, List.getElem?_toArray, List.getElem?_cons_zero, List.getElem?_cons_succ, reduceCtorEq, hstx, hsty, loadN4b hXd, Option.map_some]
  refine call0 (bytes_spec liveX wd) ?_
  rintro bxv we ⟨hbv, hge⟩
  have hx2 : Ext0 G1 w1 (G1.new w1.heap.size) we := .newB (hgd.trans hge)
  have hd2 := hd1.ext hx2 id
  simp (disch := omega) only [↓sy1, sy2, sy3, readOK, implies_true, forall_const, Nat.reduceEqDiff, ↓reduceIte, Option.map_some, Option.map_none, List.map_cons, List.map_nil, oneOf, if_true, if_false, Nat.reduceAdd, Nat.reduceMul, Option.isNone_some, Option.isNone_none, List.getElem?_toArray, List.getElem?_cons_zero, List.getElem?_cons_succ, reduceCtorEq]
  have hsz : liveX.size = 512 := rfl
  have hszy : liveY.size = 512 := rfl
  refine call0 (write_spec (n := 1) hd2 (by simp [Dsk.zero]) (by rw [Deed.bytes_length]; rfl) (Has.own hbv) (by simp [Dsk.zero])) ?_
  rintro _ wf ⟨rfl, G3, hd3, hx3⟩
  have hYf : wf.heap[by_]? = some (.cells #[.bool false, .int .i64 1, .int .i64 512, .int .u8 8] 43 (0, 0)) := hx3.heap (hge.gheap hYd) (by rw [Gh.new_own (by omega)]; omega)
  simp (disch := omega) only [↓sy1, sy2, sy3, readOK, implies_true, forall_const, Nat.reduceEqDiff, ↓reduceIte, Option.map_some, Option.map_none, List.map_cons, List.map_nil, oneOf, if_true, if_false, Nat.reduceAdd, Nat.reduceMul, Option.isNone_some, Option.isNone_none, List.getElem?_toArray, List.getElem?_cons_zero, List.getElem?_cons_succ, reduceCtorEq, loadN4b hYf, Option.map_some]
  refine call0 (bytes_spec liveY wf) ?_
  rintro byv wg ⟨hbv2, hgg⟩
  have hx4 : Ext0 G3 wf (G3.new wf.heap.size) wg := .newB hgg
  have hd4 := hd3.ext hx4 id
  simp (disch := omega) only [↓sy1, sy2, sy3, readOK, implies_true, forall_const, Nat.reduceEqDiff, ↓reduceIte, Option.map_some, Option.map_none, List.map_cons, List.map_nil, oneOf, if_true, if_false, Nat.reduceAdd, Nat.reduceMul, Option.isNone_some, Option.isNone_none, List.getElem?_toArray, List.getElem?_cons_zero, List.getElem?_cons_succ, reduceCtorEq]
  refine call0 (write_spec (n := 1) hd4 (by simp [Dsk.zero, Dsk.add]) (by rw [Deed.bytes_length]; rfl) (Has.own hbv2) (by simp [Dsk.zero, Dsk.add])) ?_
  rintro _ wh ⟨rfl, G5, hd5, hx5⟩
  simp (disch := omega) only [↓sy1, sy2, sy3, readOK, implies_true, forall_const, Nat.reduceEqDiff, ↓reduceIte, Option.map_some, Option.map_none, List.map_cons, List.map_nil, oneOf, if_true, if_false, Nat.reduceAdd, Nat.reduceMul, Option.isNone_some, Option.isNone_none, List.getElem?_toArray, List.getElem?_cons_zero, List.getElem?_cons_succ, reduceCtorEq]
  have hxa : Ext (fun c => c = 1) G00 w G5 wh := ((((hx1.trans hx2).mono (fun _ h => h.elim)).trans hx3).trans (hx4.mono (fun _ h => h.elim))).trans hx5
  have hgw : Grow w wh := hxa.toGrow (by omega)
  refine call0 (waiting_spec hd5) ?_
  rintro _ wi ⟨a, b, rfl, ha, hb, _, hgi⟩
  have hd6 := hd5.grow hgi
  change DiskAt G5 1 wi p liveD at hd6
  rw [show (((Dsk.zero 2).add (.wr 1 liveX.bytes)).add (.wr 1 liveY.bytes)) = liveD from rfl, liveD_waiting] at ha
  rw [show (((Dsk.zero 2).add (.wr 1 liveX.bytes)).add (.wr 1 liveY.bytes)) = liveD from rfl, liveD_writes] at hb
  simp (disch := omega) only [↓sy1, sy2, sy3, readOK, implies_true, forall_const, Nat.reduceEqDiff, ↓reduceIte, Option.map_some, Option.map_none, List.map_cons, List.map_nil, oneOf, if_true, if_false, Nat.reduceAdd, Nat.reduceMul, Option.isNone_some, Option.isNone_none, List.getElem?_toArray, List.getElem?_cons_zero, List.getElem?_cons_succ, reduceCtorEq]
  have hgk : Grow wi (wi.alloc (.cells #[.int .i64 1] 3)) := (Keep.refl _ _).alloc _
  have hkv : HasI (wi.alloc (.cells #[.int .i64 1] 3)) (.slice (some ⟨wi.heap.size, 0, none⟩) 1 1) [1] := Has.new1
  generalize wi.alloc (.cells #[.int .i64 1] 3) = wk at hgk hkv ⊢
  have hmay : liveD.may [1] := by
    refine ⟨by rw [liveD_waiting]; simp, fun i h h' => ?_⟩
    have hi : i = 0 := by simpa using h
    subst hi
    have : (liveD.wait (liveD.waiting[0]'h')).length = 2 := by
      simp only [liveD_waiting, liveD_wait]; rfl
    rw [this]; simp
  refine call0 (crash_spec 2 (hd6.grow hgk) hkv (by simp)) ?_
  rintro v wl ⟨hgood, _⟩
  obtain ⟨p2, G7, rfl, hp2, hd7, hx7⟩ := hgood hmay
  simp (disch := omega) only [↓sy1, sy2, sy3, readOK, implies_true, forall_const, Nat.reduceEqDiff, ↓reduceIte, Option.map_some, Option.map_none, List.map_cons, List.map_nil, oneOf, if_true, if_false, Nat.reduceAdd, Nat.reduceMul, Option.isNone_some, Option.isNone_none, List.getElem?_toArray, List.getElem?_cons_zero, List.getElem?_cons_succ, reduceCtorEq]
  have hlen7 : (liveD.crash ([1].map Int.toNat)).first.length = 2 := by
    show (crashed _ _ _ _).length = 2
    rw [crashed_length, liveD.safe_length]; rfl
  refine call0 (read_spec (n := 1) hd7 (by rw [hlen7]; omega)) ?_
  rintro _ wm ⟨rd, rfl, hrd, hgm⟩
  have himg : (liveD.crash ([1].map Int.toNat)).image = [zsec, liveX.bytes] := by
    simp only [Dsk.image, Dsk.crash, Dsk.safe_new, Dsk.wait_new, flushed_none, liveD_waiting]
    simp only [List.map_cons, List.map_nil, crashed, liveD_wait]
    rfl
  have hrd1 : wm.ownsRow wl.heap.size 5 1 rd 512 (bs liveX.bytes) := by
    have he : ∀ (l : List (List UInt8)) (h : 1 < l.length), l = [zsec, liveX.bytes] → l[1] = liveX.bytes := fun l h e => by subst e; rfl
    rw [he _ _ himg] at hrd; exact hrd
  have hgl : Grow wi wl := hgk.trans hx7.growG
  have hga' := (Has.own ha).grow (hgl.trans hgm)
  have hgb' := (Has.own hb).grow (hgl.trans hgm)
  obtain ⟨aa, haa, haac, _⟩ := hga'.getI (l := [1]) (i := 0) (by simp)
  obtain ⟨ab, hab, habc, _⟩ := hgb'.getI (l := [2]) (i := 0) (by simp)
  have hrb := Has.own hrd1
  obtain ⟨ar, har, harc, _⟩ := hrb.getB (l := liveX.bytes) (i := 0) (by rw [Deed.bytes_length]; decide)
  have hla : ∀ w2, lenF w2 0 a = some (.int .i64 1) := fun w2 => by rw [hga'.lenI]; rfl
  have hlr : ∀ w2, lenF w2 0 rd = some (.int .i64 512) := fun w2 => by rw [hrb.lenB, Deed.bytes_length]; rfl
  have hr0 : ((liveX.bytes[0]'(by rw [Deed.bytes_length]; decide)).toNat : Int) = 7 := by simp [Deed.bytes, liveX]
  rw [hr0] at harc
  have haa' : iaF 1 a (.int .i64 0) = some (.pointer (some aa)) := haa
  have hab' : iaF 1 b (.int .i64 0) = some (.pointer (some ab)) := hab
  have har' : iaF 1 rd (.int .i64 0) = some (.pointer (some ar)) := har
  have haac' : wm.cell? aa = some (.int .i64 1) := haac
  have habc' : wm.cell? ab = some (.int .i64 2) := habc
  simp (disch := omega) only [↓sy1, sy2, sy3, readOK, implies_true, forall_const, Nat.reduceEqDiff, ↓reduceIte, Option.map_some, Option.map_none, List.map_cons, List.map_nil, oneOf, if_true, if_false, Nat.reduceAdd, Nat.reduceMul, Option.isNone_some, Option.isNone_none, List.getElem?_toArray, List.getElem?_cons_zero, List.getElem?_cons_succ, reduceCtorEq, hla, hlr, haa', haac', hab', habc', har', harc]
  exact R_out (((hgw.trans hgi).trans hgl).trans hgm)
end Go.Proofs.Ytaeejceljgjdkaa
