/- Deeds that are played on both disks. -/
import Derived.Test.YtaeejceljgjdkaaRn
namespace Go.Proofs.Ytaeejceljgjdkaa
open Go
set_option linter.unusedSimpArgs false
open Go.RowKit (intOf)
def wcode (D : Dsk) (n : Int) (b : List UInt8) : Int := if n < 0 ∨ (D.first.length : Int) ≤ n then 2 else if b.length = 512 then 0 else 3
def wdone (D : Dsk) (n : Int) (b : List UInt8) : Dsk := if (0 ≤ n ∧ n < D.first.length) ∧ b.length = 512 then D.add (.wr n.toNat b) else D
theorem wdone_first (D : Dsk) (n : Int) (b : List UInt8) : (wdone D n b).first = D.first := by unfold wdone; split <;> rfl
theorem wdone_ops (D : Dsk) (n : Int) (b : List UInt8) : (wdone D n b).ops.length ≤ D.ops.length + 1 := by unfold wdone; split <;> simp [Dsk.add]
theorem write_any {G : Gh} {κ : Nat} {w : World} {p : Nat} {n : Int} {D : Dsk} {u : Value} {b : List UInt8} (h : DiskAt G κ w p D) (hu : HasB w u b) (hl : D.ops.length < 1000000) :
    Calls Try.prog 23 #[.pointer (some ⟨p, 0, none⟩), .int .i64 n, u] w (Ret fun v w' => v = .int .i64 (wcode D n b) ∧ ∃ G', DiskAt G' κ w' p (wdone D n b) ∧ Ext (fun c => c = κ) G w G' w') := by
  obtain ⟨hb1, hb2⟩ := write_bad (n := n) h hu
  unfold wcode wdone
  by_cases hn : n < 0 ∨ (D.first.length : Int) ≤ n
  · rw [if_pos hn, if_neg (by omega)]
    refine Ret.mono (hb1 hn) fun v w' ⟨hv, hw⟩ => ⟨hv, G, ?_⟩
    subst hw; exact ⟨h, .refl _ _ _⟩
  · by_cases hl : b.length = 512
    · rw [if_neg hn, if_pos hl, if_pos (by omega)]
      obtain ⟨m, rfl⟩ : ∃ m : Nat, n = m := ⟨n.toNat, by omega⟩
      exact write_spec h (by omega) hl hu (by omega)
    · rw [if_neg hn, if_neg hl, if_neg (by omega)]
      refine Ret.mono (hb2 (by omega) (by omega) hl) fun v w' ⟨hv, hw⟩ => ⟨hv, G, ?_⟩
      subst hw; exact ⟨h, .refl _ _ _⟩
theorem rwrite_any {G : Gh} {κ : Nat} {w : World} {p : Nat} {n : Int} {D : Dsk} {u : Value} {b : List UInt8} (h : RefAt G κ w p D) (hu : HasB w u b) (hl : D.ops.length < 1000000) :
    Calls Try.prog 41 #[.pointer (some ⟨p, 0, none⟩), .int .i64 n, u] w (Ret fun v w' => v = .int .i64 (wcode D n b) ∧ ∃ G', RefAt G' κ w' p (wdone D n b) ∧ Ext (fun c => c = κ) G w G' w') := by
  obtain ⟨hb1, hb2⟩ := rwrite_bad (n := n) h hu
  unfold wcode wdone
  by_cases hn : n < 0 ∨ (D.first.length : Int) ≤ n
  · rw [if_pos hn, if_neg (by omega)]
    refine Ret.mono (hb1 hn) fun v w' ⟨hv, hw⟩ => ⟨hv, G, ?_⟩
    subst hw; exact ⟨h, .refl _ _ _⟩
  · by_cases hl : b.length = 512
    · rw [if_neg hn, if_pos hl, if_pos (by omega)]
      obtain ⟨m, rfl⟩ : ∃ m : Nat, n = m := ⟨n.toNat, by omega⟩
      exact rwrite_spec h (by omega) hl hu (by omega)
    · rw [if_neg hn, if_neg hl, if_neg (by omega)]
      refine Ret.mono (hb2 (by omega) (by omega) hl) fun v w' ⟨hv, hw⟩ => ⟨hv, G, ?_⟩
      subst hw; exact ⟨h, .refl _ _ _⟩
def Deed.on (x : Deed) (D : Dsk) : Dsk := if x.fl then D.add .fl else wdone D x.n x.bytes
def played (D : Dsk) (l : List Deed) : Dsk := l.foldl (fun D x => x.on D) D
theorem Deed.on_first (x : Deed) (D : Dsk) : (x.on D).first = D.first := by
  unfold Deed.on; split
  · rfl
  · exact wdone_first _ _ _
theorem Deed.on_ops (x : Deed) (D : Dsk) : (x.on D).ops.length ≤ D.ops.length + 1 := by
  unfold Deed.on; split
  · simp [Dsk.add]
  · exact wdone_ops _ _ _
theorem played_first (l : List Deed) : ∀ D : Dsk, (played D l).first = D.first := by
  induction l with
  | nil => intro D; rfl
  | cons x l ih => intro D; exact (ih _).trans (x.on_first D)
theorem played_ops (l : List Deed) : ∀ D : Dsk, (played D l).ops.length ≤ D.ops.length + l.length := by
  induction l with
  | nil => intro D; simp [played]
  | cons x l ih => intro D; have h1 := ih (x.on D); have h2 := x.on_ops D; simp only [played, List.foldl_cons, List.length_cons] at h1 ⊢; omega
theorem played_snoc (D : Dsk) (l : List Deed) (x : Deed) : played D (l ++ [x]) = x.on (played D l) := by simp [played, List.foldl_append]

/-- A row of deeds. -/
def Deed.cells (x : Deed) : List Value := [.bool x.fl, .int .i64 x.n, .int .i64 x.len, .int .u8 (x.b.toNat : Int)]
abbrev HasD (w : World) (v : Value) (l : List Deed) := Has 4 w v (l.flatMap Deed.cells)
theorem deeds_length (l : List Deed) : (l.flatMap Deed.cells).length = l.length * 4 := by
  induction l with
  | nil => rfl
  | cons x l ih => simp [Deed.cells, ih]; omega
theorem deeds_get : ∀ (l : List Deed) (i : Nat) (h : i < l.length) (j : Nat), j < 4 → (l.flatMap Deed.cells)[i * 4 + j]? = l[i].cells[j]?
  | x :: l, 0, h, j, hj => by
    rw [List.flatMap_cons, List.getElem?_append_left (by simp [Deed.cells]; omega)]; simp
  | x :: l, i + 1, h, j, hj => by
    rw [List.flatMap_cons, List.getElem?_append_right (by simp [Deed.cells]; omega)]
    have := deeds_get l i (by simpa using h) j hj
    rw [show (i + 1) * 4 + j - x.cells.length = i * 4 + j from by simp [Deed.cells]; omega, this]; simp
theorem HasD.at {w : World} {v : Value} {l : List Deed} (h : HasD w v l) {i : Nat} (hi : i < l.length) :
    ∃ b o, iaF 4 v (.int .i64 i) = some (.pointer (some ⟨b, o, none⟩)) ∧ w.cell? ⟨b, o, none⟩ = some (.bool l[i].fl) ∧ w.cell? ⟨b, o + 1, none⟩ = some (.int .i64 l[i].n) ∧ w.cell? ⟨b, o + 2, none⟩ = some (.int .i64 l[i].len) ∧ w.cell? ⟨b, o + 3, none⟩ = some (.int .u8 (l[i].b.toNat : Int)) ∧ v.ownBlock = some b := by
  obtain ⟨b, o, h1, h2, h3⟩ := h.idxk (i := i) (by rw [deeds_length]; omega)
  have key : ∀ j, j < 4 → ∃ u, l[i].cells[j]? = some u ∧ w.cell? ⟨b, o + j, none⟩ = some u := fun j hj => by
    obtain ⟨u, h4, h5⟩ := h2 j hj
    rw [deeds_get l i hi j hj] at h4; exact ⟨u, h4, h5⟩
  obtain ⟨u0, a0, b0⟩ := key 0 (by omega)
  obtain ⟨u1, a1, b1⟩ := key 1 (by omega)
  obtain ⟨u2, a2, b2⟩ := key 2 (by omega)
  obtain ⟨u3, a3, b3⟩ := key 3 (by omega)
  cases a0; cases a1; cases a2; cases a3
  exact ⟨b, o, h1, b0, b1, b2, b3, h3⟩
theorem HasD.lenD {w : World} {v : Value} {l : List Deed} (h : HasD w v l) (w2 : World) : lenF w2 0 v = some (.int .i64 l.length) := by
  rw [h.lenk (by omega), deeds_length]; simp
/-- A row of deeds stays where nobody's blocks change. -/
theorem HasD.ext {κ : Nat → Prop} {G' : Gh} {w w' : World} {v : Value} {l : List Deed} (h : HasD w v l) (hx : Ext κ G00 w G' w') (hk : ¬ κ 0) : HasD w' v l := Has.grow h (hx.toGrow hk)
theorem Has.lt {k : Nat} {w : World} {v : Value} {xs : List Value} (h : Has k w v xs) (hx : xs ≠ []) {b : Nat} (hb : v.ownBlock = some b) : b < w.heap.size := by
  rcases h with ⟨b', o, n, c, rfl, h1, h2, h3⟩ | ⟨h1, _⟩
  · cases hb
    have hpos : 0 < xs.length := List.length_pos_iff.2 hx
    exact World.block_lt_of_cell? w _ (h3 0 _ (List.getElem?_eq_getElem (l := xs) hpos))
  · exact absurd h1 hx
abbrev Mine : Nat → Prop := fun c => c ≠ 0
theorem play_spec {w : World} {lv : Value} {l : List Deed} {n : Nat} (hv : HasD w lv l) (h1 : 1 ≤ n) (h2 : n ≤ 4096) :
    Calls Try.prog 13 #[.int .i64 n, lv] w (Ret fun v w' => ∃ p r G', v = .tuple #[.pointer (some ⟨p, 0, none⟩), .pointer (some ⟨r, 0, none⟩), .bool true] ∧
      DiskAt G' 1 w' p (played (Dsk.zero n) (l.take 40)) ∧ RefAt G' 2 w' r (played (Dsk.zero n) (l.take 40)) ∧ Ext Mine G00 w G' w') := by
  apply enter13
  apply R_in
  simp (maxSteps := 1000000) (disch := omega) only [F13, ↓sy1, sy2, sy3, readOK, implies_true, forall_const, Nat.reduceEqDiff, ↓reduceIte, Option.map_some, Option.map_none, List.map_cons, List.map_nil, oneOf, if_true, if_false, Nat.reduceAdd, Nat.reduceMul, Option.isNone_some, Option.isNone_none, List.getElem?_toArray, List.getElem?_cons_zero, List.getElem?_cons_succ, reduceCtorEq]
  refine call0 (new_spec G00 1 h1 h2) ?_
  rintro _ w1 ⟨p, G1, rfl, hp1, hd1, hx1⟩
  simp (maxSteps := 1000000) (disch := omega) only [↓sy1, sy2, sy3, readOK, implies_true, forall_const, Nat.reduceEqDiff, ↓reduceIte, Option.map_some, Option.map_none, List.map_cons, List.map_nil, oneOf, if_true, if_false, Nat.reduceAdd, Nat.reduceMul, Option.isNone_some, Option.isNone_none, List.getElem?_toArray, List.getElem?_cons_zero, List.getElem?_cons_succ, reduceCtorEq]
  refine call0 (rnew_spec G1 2 h1 h2) ?_
  rintro _ w2 ⟨r, G2, rfl, hr2, hrd2, hx2⟩
  simp (maxSteps := 1000000) (disch := omega) only [↓sy1, sy2, sy3, readOK, implies_true, forall_const, Nat.reduceEqDiff, ↓reduceIte, Option.map_some, Option.map_none, List.map_cons, List.map_nil, oneOf, if_true, if_false, Nat.reduceAdd, Nat.reduceMul, Option.isNone_some, Option.isNone_none, List.getElem?_toArray, List.getElem?_cons_zero, List.getElem?_cons_succ, reduceCtorEq]
  have hx02 : Ext Mine G00 w G2 w2 := (hx1.trans hx2).mono (fun _ h => h.elim)
  refine loop_rule (fun e w' => ∃ (i : Nat) (G' : Gh), i ≤ l.length ∧ i ≤ 40 ∧ e 11 = .int .i64 i ∧ e 1 = lv ∧ e 7 = .pointer (some ⟨p, 0, none⟩) ∧ e 9 = .pointer (some ⟨r, 0, none⟩) ∧
      DiskAt G' 1 w' p (played (Dsk.zero n) (l.take i)) ∧ RefAt G' 2 w' r (played (Dsk.zero n) (l.take i)) ∧ Ext Mine G00 w G' w') (fun e _ => 40 - (intOf (e 11)).toNat)
    ⟨0, G2, by omega, by omega, by simp [upd, updO, ev], by simp [upd, updO, ev], by simp [upd, updO, ev], by simp [upd, updO, ev], hd1.ext hx2 id, hrd2, hx02⟩ ?_
  rintro e w3 ⟨i, G3, hi, hi40, e11, e1, e7, e9, hd3, hrd3, hx3⟩
  have hv3 := hv.ext hx3 (by simp)
  have hops : (played (Dsk.zero n) (l.take i)).ops.length < 1000 := by
    have := played_ops (l.take i) (Dsk.zero n)
    rw [show (Dsk.zero n).ops.length = 0 from rfl, List.length_take] at this; omega
  by_cases hlt : i < l.length
  · by_cases h40 : i < 40
    · have h40' : ((i : Int) < 40) := by omega
      obtain ⟨b, o, hia, hc0, hc1, hc2, hc3, hob⟩ := hv3.at hlt
      have hblt : b < w.heap.size := hv.lt (by rw [← List.length_pos_iff, deeds_length]; omega) hob
      have hown : ∀ {G4 w4}, Ext Mine G00 w G4 w4 → G4.own b = 0 := fun hx => hx.own b hblt
      have htake : l.take (i + 1) = l.take i ++ [l[i]] := List.take_succ_eq_append_getElem hlt
      generalize hx : l[i] = x at hc0 hc1 hc2 hc3 htake
      generalize hDD : played (Dsk.zero n) (l.take i) = D at hd3 hrd3 hops
      have hnext : played (Dsk.zero n) (l.take (i + 1)) = x.on D := by rw [htake, played_snoc, hDD]
      by_cases hfl : x.fl = true
      · rw [hfl] at hc0
        simp (maxSteps := 1000000) (disch := omega) only [F13_L1, ↓sy1, sy2, sy3, readOK, implies_true, forall_const, Nat.reduceEqDiff, ↓reduceIte, Option.map_some, Option.map_none, List.map_cons, List.map_nil, oneOf, if_true, if_false, Nat.reduceAdd, Nat.reduceMul, Option.isNone_some, Option.isNone_none, List.getElem?_toArray, List.getElem?_cons_zero, List.getElem?_cons_succ, reduceCtorEq, e11, e1, e7, e9, hv3.lenD, Int.ofNat_lt, hlt, h40', decide_true, hia, hc0]
        refine call0 (flush_spec hd3 (by omega)) ?_
        rintro _ w4 ⟨rfl, G4, hd4, hx4⟩
        simp (maxSteps := 1000000) (disch := omega) only [↓sy1, sy2, sy3, readOK, implies_true, forall_const, Nat.reduceEqDiff, ↓reduceIte, Option.map_some, Option.map_none, List.map_cons, List.map_nil, oneOf, if_true, if_false, Nat.reduceAdd, Nat.reduceMul, Option.isNone_some, Option.isNone_none, List.getElem?_toArray, List.getElem?_cons_zero, List.getElem?_cons_succ, reduceCtorEq, e11, e1, e7, e9]
        refine call0 (rflush_spec (hrd3.ext hx4 (by omega)) (by omega)) ?_
        rintro _ w5 ⟨rfl, G5, hrd5, hx5⟩
        simp (maxSteps := 1000000) (disch := omega) only [↓sy1, sy2, sy3, readOK, implies_true, forall_const, Nat.reduceEqDiff, ↓reduceIte, Option.map_some, Option.map_none, List.map_cons, List.map_nil, oneOf, if_true, if_false, Nat.reduceAdd, Nat.reduceMul, Option.isNone_some, Option.isNone_none, List.getElem?_toArray, List.getElem?_cons_zero, List.getElem?_cons_succ, reduceCtorEq, e11, e1, e7, e9, decide_true]
        have hon : x.on D = D.add .fl := by simp [Deed.on, hfl]
        refine R_out ⟨⟨i + 1, G5, by omega, by omega, rfl, ?_, ?_, ?_⟩, ?_⟩
        · rw [hnext, hon]; exact hd4.ext hx5 (by omega)
        · rw [hnext, hon]; exact hrd5
        · exact (hx3.trans (hx4.mono (fun c h => by omega))).trans (hx5.mono (fun c h => by omega))
        · simp only [intOf]; omega
      · have hfl' : x.fl = false := by simpa using hfl
        rw [hfl'] at hc0
        have hval : Value.agg #[.bool false, .int .i64 x.n, .int .i64 x.len, .int .u8 (x.b.toNat : Int)] = x.val := by rw [Deed.val, hfl']
        have hl4 := loadN4 hc0 hc1 hc2 hc3
        simp (maxSteps := 1000000) (disch := omega) only [F13_L1, ↓sy1, sy2, sy3, readOK, implies_true, forall_const, Nat.reduceEqDiff, ↓reduceIte, Option.map_some, Option.map_none, List.map_cons, List.map_nil, oneOf, if_true, if_false, Nat.reduceAdd, Nat.reduceMul, Option.isNone_some, Option.isNone_none, List.getElem?_toArray, List.getElem?_cons_zero, List.getElem?_cons_succ, reduceCtorEq, e11, e1, e7, e9, hv3.lenD, Int.ofNat_lt, hlt, h40', decide_true, hia, hc0, hl4]
        rw [hval]
        refine call0 (bytes_spec x w3) ?_
        rintro bv w4 ⟨hbv, hg4⟩
        simp (maxSteps := 1000000) (disch := omega) only [↓sy1, sy2, sy3, readOK, implies_true, forall_const, Nat.reduceEqDiff, ↓reduceIte, Option.map_some, Option.map_none, List.map_cons, List.map_nil, oneOf, if_true, if_false, Nat.reduceAdd, Nat.reduceMul, Option.isNone_some, Option.isNone_none, List.getElem?_toArray, List.getElem?_cons_zero, List.getElem?_cons_succ, reduceCtorEq, e11, e1, e7, e9]
        have hx4 : Ext0 G3 w3 (G3.upto w3.heap.size (fun _ => 3) (fun _ => 0)) w4 := .upto hg4 _ _
        have ho3 : ∀ bb, w3.heap.size ≤ bb → (G3.upto w3.heap.size (fun _ => 3) (fun _ => 0)).own bb = 3 ∧ (G3.upto w3.heap.size (fun _ => 3) (fun _ => 0)).fix bb = 0 := fun bb hbb => by simp [Gh.upto, Nat.not_lt.2 hbb]
        generalize hG4 : G3.upto w3.heap.size (fun _ => 3) (fun _ => 0) = G4 at hx4 ho3
        have hd4 := hd3.ext hx4 id
        have hrd4 := hrd3.ext hx4 id
        have hx04 : Ext Mine G00 w G4 w4 := hx3.trans (hx4.mono (fun _ h => h.elim))
        have hv4 := hv.ext hx04 (by simp)
        have hsz := hx3.size
        refine draw13_0 (fun bb => G4.own bb = 1) ?_
        have hgd : Grow w4 w4.drew := (Keep.refl _ _).drew
        have hd5 := hd4.grow hgd
        have hrd5 := hrd4.grow hgd
        have hv5 := Has.grow hv4 hgd
        have hbv5 := own_grow hbv hgd
        have hx05 : Ext Mine G00 w G4 w4.drew := hx04.trans (.grow hgd)
        have hsz4 : w3.heap.size ≤ w4.drew.heap.size := hg4.size
        generalize w4.drew = w5 at hgd hd5 hrd5 hv5 hbv5 hx05 hsz4 ⊢
        obtain ⟨b', o', hia', _, hc1', _, _, hob'⟩ := HasD.at hv5 hlt
        rw [hob] at hob'; cases hob'
        rw [hia] at hia'; cases hia'
        rw [hx] at hc1'
        have hb0 : ¬ (G4.own b = 1) := by rw [hown hx05]; omega
        simp (maxSteps := 1000000) (disch := omega) only [PL13_0, ↓sy1, sy2, sy3, readOK, implies_true, forall_const, Nat.reduceEqDiff, ↓reduceIte, Option.map_some, Option.map_none, List.map_cons, List.map_nil, oneOf, if_true, if_false, Nat.reduceAdd, Nat.reduceMul, Option.isNone_some, Option.isNone_none, List.getElem?_toArray, List.getElem?_cons_zero, List.getElem?_cons_succ, reduceCtorEq, e11, e1, e7, e9, hia, hc1', hb0]
        refine call0 (write_any (n := x.n) hd5 (Has.own hbv5) (by omega)) ?_
        rintro _ w6 ⟨rfl, G6, hd6, hx6⟩
        simp (maxSteps := 1000000) (disch := omega) only [↓sy1, sy2, sy3, readOK, implies_true, forall_const, Nat.reduceEqDiff, ↓reduceIte, Option.map_some, Option.map_none, List.map_cons, List.map_nil, oneOf, if_true, if_false, Nat.reduceAdd, Nat.reduceMul, Option.isNone_some, Option.isNone_none, List.getElem?_toArray, List.getElem?_cons_zero, List.getElem?_cons_succ, reduceCtorEq, e11, e1, e7, e9]
        refine ⟨hx6.keep, ?_⟩
        have hrd6 := hrd5.ext hx6 (by omega)
        have hbv6 := own_keep hbv5 hx6.keep (fun bb hbb => by rw [(ho3 bb (World.ownsRow.lt hbv5 bb hbb).1).1]; omega)
        refine call0 (rwrite_any (n := x.n) hrd6 (Has.own hbv6) (by omega)) ?_
        rintro _ w7 ⟨rfl, G7, hrd7, hx7⟩
        simp (maxSteps := 1000000) (disch := omega) only [↓sy1, sy2, sy3, readOK, implies_true, forall_const, Nat.reduceEqDiff, ↓reduceIte, Option.map_some, Option.map_none, List.map_cons, List.map_nil, oneOf, if_true, if_false, Nat.reduceAdd, Nat.reduceMul, Option.isNone_some, Option.isNone_none, List.getElem?_toArray, List.getElem?_cons_zero, List.getElem?_cons_succ, reduceCtorEq, e11, e1, e7, e9, decide_true]
        have hd7 := hd6.ext hx7 (by omega)
        have hown67 : ∀ bb, bv.ownBlock = some bb → G6.own bb = 3 ∧ G6.fix bb = 0 ∧ G7.own bb = 3 ∧ G7.fix bb = 0 ∧ bb < w5.heap.size := fun bb hbb => by
          obtain ⟨hl1, hl2⟩ := World.ownsRow.lt hbv5 bb hbb
          obtain ⟨q1, q2⟩ := ho3 bb hl1
          have q3 := hx6.own bb hl2
          have q4 := hx6.fixe bb hl2 (by omega)
          have hl3 := Nat.lt_of_lt_of_le hl2 hx6.size
          have q5 := hx7.own bb hl3
          have q6 := hx7.fixe bb hl3 (by omega)
          omega
        have hbv7 := own_keep hbv6 hx7.keep (fun bb hbb => by have := hown67 bb hbb; omega)
        have hx07 : Ext Mine G00 w G7 w7 := (hx05.trans (hx6.mono (fun c h => by omega))).trans (hx7.mono (fun c h => by omega))
        have hle := x.size_le
        refine loop_rule (fun e w' => ∃ (k : Nat) (xs : List Value), k ≤ x.size ∧ e 13 = .int .i64 k ∧ e 12 = bv ∧ e 11 = .int .i64 i ∧ e 1 = lv ∧ e 7 = .pointer (some ⟨p, 0, none⟩) ∧ e 9 = .pointer (some ⟨r, 0, none⟩) ∧
            w'.ownsRow w3.heap.size 5 1 bv x.size xs ∧ Keep (fun bb => bv.ownBlock = some bb) w7 w') (fun e _ => x.size - (intOf (e 13)).toNat)
          ⟨0, _, by omega, by simp [upd, updO, ev], by simp [upd, updO, ev], by simp [upd, updO, ev, e11], by simp [upd, updO, ev, e1], by simp [upd, updO, ev, e7], by simp [upd, updO, ev, e9], hbv7, Keep.refl _ _⟩ ?_
        clear e11 e1 e7 e9
        rintro e w8 ⟨k, xs, hk, e13, e12, e11, e1, e7, e9, hbv8, hk8⟩
        have hlen8 : ∀ w2, lenF w2 0 bv = some (.int .i64 x.size) := fun w2 => by
          have h1 := (Has.own hbv8).len w2
          have h2 : xs.length = x.size := by simpa using hbv8.1
          rw [h1, h2]
        by_cases hkl : k < x.size
        · obtain ⟨a, w9, hia9, hst, hbv9, hk9, _⟩ := own_store hbv8 hkl (u := .int .u8 99) rfl
          simp (maxSteps := 1000000) (disch := omega) only [F13_L0, ↓sy1, sy2, sy3, readOK, implies_true, forall_const, Nat.reduceEqDiff, ↓reduceIte, Option.map_some, Option.map_none, List.map_cons, List.map_nil, oneOf, if_true, if_false, Nat.reduceAdd, Nat.reduceMul, Option.isNone_some, Option.isNone_none, List.getElem?_toArray, List.getElem?_cons_zero, List.getElem?_cons_succ, reduceCtorEq, e13, e12, e11, e1, e7, e9, hlen8, Int.ofNat_lt, hkl, decide_true, hia9, hst]
          refine R_out ⟨⟨k + 1, _, by omega, rfl, hbv9, hk8.trans hk9⟩, ?_⟩
          simp only [intOf]; omega
        · simp (maxSteps := 1000000) (disch := omega) only [F13_L0, ↓sy1, sy2, sy3, readOK, implies_true, forall_const, Nat.reduceEqDiff, ↓reduceIte, Option.map_some, Option.map_none, List.map_cons, List.map_nil, oneOf, if_true, if_false, Nat.reduceAdd, Nat.reduceMul, Option.isNone_some, Option.isNone_none, List.getElem?_toArray, List.getElem?_cons_zero, List.getElem?_cons_succ, reduceCtorEq, e13, e12, e11, e1, e7, e9, hlen8, Int.ofNat_lt, hkl, decide_false]
          have hx8 : Ext (fun c => c = 3) G7 w7 G7 w8 := by
            rcases hob8 : bv.ownBlock with _ | bb
            · exact .grow (hk8.mono (fun b _ h => by rw [hob8] at h; cases h))
            · have hq := hown67 bb hob8
              refine .on0 (g := bb) (hk8.mono (fun b _ h => by rw [hob8] at h; cases h; rfl)) (by omega) (by omega)
          have hon : x.on D = wdone D x.n x.bytes := by simp [Deed.on, hfl']
          refine R_out ⟨⟨i + 1, G7, by omega, by omega, rfl, ?_, ?_, ?_⟩, ?_⟩
          · rw [hnext, hon]; exact hd7.ext hx8 (by omega)
          · rw [hnext, hon]; exact hrd7.ext hx8 (by omega)
          · exact hx07.trans (hx8.mono (fun c h => by omega))
          · simp only [intOf]; omega
    · have h40' : ¬ ((i : Int) < 40) := by omega
      simp (maxSteps := 1000000) (disch := omega) only [F13_L1, ↓sy1, sy2, sy3, readOK, implies_true, forall_const, Nat.reduceEqDiff, ↓reduceIte, Option.map_some, Option.map_none, List.map_cons, List.map_nil, oneOf, if_true, if_false, Nat.reduceAdd, Nat.reduceMul, Option.isNone_some, Option.isNone_none, List.getElem?_toArray, List.getElem?_cons_zero, List.getElem?_cons_succ, reduceCtorEq, e11, e1, e7, e9, hv3.lenD, Int.ofNat_lt, hlt, h40', decide_true, decide_false]
      have hie : i = 40 := by omega
      subst hie
      exact R_out ⟨p, r, G3, rfl, hd3, hrd3, hx3⟩
  · simp (maxSteps := 1000000) (disch := omega) only [F13_L1, ↓sy1, sy2, sy3, readOK, implies_true, forall_const, Nat.reduceEqDiff, ↓reduceIte, Option.map_some, Option.map_none, List.map_cons, List.map_nil, oneOf, if_true, if_false, Nat.reduceAdd, Nat.reduceMul, Option.isNone_some, Option.isNone_none, List.getElem?_toArray, List.getElem?_cons_zero, List.getElem?_cons_succ, reduceCtorEq, e11, e1, e7, e9, hv3.lenD, Int.ofNat_lt, hlt, decide_false]
    have hie : l.take i = l.take 40 := by rw [List.take_of_length_le (by omega), List.take_of_length_le (by omega)]
    rw [hie] at hd3 hrd3
    exact R_out ⟨p, r, G3, rfl, hd3, hrd3, hx3⟩
end Go.Proofs.Ytaeejceljgjdkaa
