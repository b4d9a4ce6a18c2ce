/- DiskReplays: the walk. -/
import Derived.Test.YtaeejceljgjdkaaCt
namespace Go.Proofs.Ytaeejceljgjdkaa
open Go
set_option linter.unusedSimpArgs false
open Go.RowKit (intOf)
theorem Deed.on_more (x : Deed) (D : Dsk) : ∃ os, (x.on D).ops = D.ops ++ os := by
  unfold Deed.on wdone
  split
  · exact ⟨[.fl], rfl⟩
  · split
    · exact ⟨_, rfl⟩
    · exact ⟨[], by simp⟩
theorem played_more (l : List Deed) : ∀ D : Dsk, ∃ os, (played D l).ops = D.ops ++ os := by
  induction l with
  | nil => intro D; exact ⟨[], by simp [played]⟩
  | cons x l ih =>
    intro D
    obtain ⟨o1, h1⟩ := x.on_more D
    obtain ⟨o2, h2⟩ := ih (x.on D)
    exact ⟨o1 ++ o2, by rw [show played D (x :: l) = played (x.on D) l from rfl, h2, h1, List.append_assoc]⟩
theorem played_cut {D0 : Dsk} (l : List Deed) {i j : Nat} (h : i ≤ j) : played D0 (l.take i) = (played D0 (l.take j)).cut (played D0 (l.take i)).ops.length := by
  have hsplit : l.take j = l.take i ++ (l.take j).drop i := by
    rw [show l.take i = (l.take j).take i by rw [List.take_take, Nat.min_eq_left h], List.take_append_drop]
  have hp : played D0 (l.take j) = played (played D0 (l.take i)) ((l.take j).drop i) := by
    conv => lhs; rw [hsplit]
    simp [played, List.foldl_append]
  obtain ⟨os, ho⟩ := played_more ((l.take j).drop i) (played D0 (l.take i))
  rw [← hp] at ho
  have hf1 := played_first (l.take i) D0
  have hf2 := played_first (l.take j) D0
  rw [Dsk.cut, ho, List.take_left', hf2, ← hf1]
  rfl
theorem diskReplays_walk {w : World} {lv : Value} {l : List Deed} {k : Nat} (hk : k < 256) (hv : HasD w lv l) :
    Calls Try.prog 10 #[lv, .int .u8 k] w (Ret fun v w' => v = .bool true ∧ Grow w w') := by
  apply enter10
  apply R_in
  simp (maxSteps := 1000000) (disch := omega) only [F10, ↓sy1, sy2, sy3, readOK, implies_true, forall_const, Nat.reduceEqDiff, ↓reduceIte, Option.map_some, Option.map_none, List.map_cons, List.map_nil, oneOf, if_true, if_false, Nat.reduceAdd, Nat.reduceMul, Option.isNone_some, Option.isNone_none, List.getElem?_toArray, List.getElem?_cons_zero, List.getElem?_cons_succ, reduceCtorEq]
  refine call0 (play_spec (n := 5) hv (by omega) (by omega)) ?_
  rintro _ w1 ⟨p, r, G1, rfl, hd1, hr1, hx1⟩
  have hcutI : ∀ i, i ≤ 40 → played (Dsk.zero 5) (l.take i) = (played (Dsk.zero 5) (l.take 40)).cut (played (Dsk.zero 5) (l.take i)).ops.length := fun i hi => played_cut l hi
  have hf5 : (played (Dsk.zero 5) (l.take 40)).first.length = 5 := by rw [played_first]; simp [Dsk.zero]
  have hops := played_ops (l.take 40) (Dsk.zero 5)
  rw [show (Dsk.zero 5).ops.length = 0 from rfl, List.length_take] at hops
  obtain ⟨D, hDD⟩ : ∃ D, D = played (Dsk.zero 5) (l.take 40) := ⟨_, rfl⟩
  rw [← hDD] at hd1 hr1 hf5 hops
  simp only [← hDD] at hcutI
  simp (maxSteps := 1000000) (disch := omega) only [↓sy1, sy2, sy3, readOK, implies_true, forall_const, Nat.reduceEqDiff, ↓reduceIte, Option.map_some, Option.map_none, List.map_cons, List.map_nil, oneOf, if_true, if_false, Nat.reduceAdd, Nat.reduceMul, Option.isNone_some, Option.isNone_none, List.getElem?_toArray, List.getElem?_cons_zero, List.getElem?_cons_succ, reduceCtorEq]
  refine call0 (live_spec w1) ?_
  rintro _ w2 ⟨rfl, hg2⟩
  have hd2 := hd1.grow hg2
  have hr2 := hr1.grow hg2
  have hx2 := hx1.trans (Ext.grow (κ := Mine) hg2)
  simp (maxSteps := 1000000) (disch := omega) only [↓sy1, sy2, sy3, readOK, implies_true, forall_const, Nat.reduceEqDiff, ↓reduceIte, Option.map_some, Option.map_none, List.map_cons, List.map_nil, oneOf, if_true, if_false, Nat.reduceAdd, Nat.reduceMul, Option.isNone_some, Option.isNone_none, List.getElem?_toArray, List.getElem?_cons_zero, List.getElem?_cons_succ, reduceCtorEq]
  refine call0 (ops_spec hd2) ?_
  rintro _ w3 ⟨rfl, rfl⟩
  have hmod : (k : Int).tmod ((D.ops.length : Int) + 1) = ((k % (D.ops.length + 1) : Nat) : Int) := rfl
  simp (maxSteps := 1000000) (disch := omega) only [↓sy1, sy2, sy3, readOK, implies_true, forall_const, Nat.reduceEqDiff, ↓reduceIte, Option.map_some, Option.map_none, List.map_cons, List.map_nil, oneOf, if_true, if_false, Nat.reduceAdd, Nat.reduceMul, Option.isNone_some, Option.isNone_none, List.getElem?_toArray, List.getElem?_cons_zero, List.getElem?_cons_succ, reduceCtorEq, hmod]
  have hnlt : k % (D.ops.length + 1) < D.ops.length + 1 := Nat.mod_lt _ (by omega)
  generalize k % (D.ops.length + 1) = n at hnlt ⊢
  refine call0 (cut_spec 4 5 (by omega) hd2 (k := n) (by omega)) ?_
  rintro _ w4 ⟨pc, G4, rfl, hpc, hc4, hx4⟩
  have hd4 := hd2.ext hx4 (by omega)
  have hr4 := hr2.ext hx4 (by omega)
  have hx04 : Ext Mine G00 w G4 w4 := hx2.trans (hx4.mono (fun c h => by omega))
  simp (maxSteps := 1000000) (disch := omega) only [↓sy1, sy2, sy3, readOK, implies_true, forall_const, Nat.reduceEqDiff, ↓reduceIte, Option.map_some, Option.map_none, List.map_cons, List.map_nil, oneOf, if_true, if_false, Nat.reduceAdd, Nat.reduceMul, Option.isNone_some, Option.isNone_none, List.getElem?_toArray, List.getElem?_cons_zero, List.getElem?_cons_succ, reduceCtorEq, decide_true]
  refine loop_rule (fun e w' => ∃ (i : Nat) (G' : Gh), i ≤ l.length ∧ i ≤ 40 ∧ e 12 = .int .i64 i ∧ e 0 = lv ∧ e 11 = .int .i64 (played (Dsk.zero 5) (l.take i)).ops.length ∧ e 8 = .int .i64 n ∧ e 9 = .pointer (some ⟨pc, 0, none⟩) ∧ e 6 = .pointer (some ⟨r, 0, none⟩) ∧ e 5 = .pointer (some ⟨p, 0, none⟩) ∧
      DiskAt G' 4 w' pc (D.cut (max n (played (Dsk.zero 5) (l.take i)).ops.length)) ∧ DiskAt G' 1 w' p D ∧ RefAt G' 2 w' r D ∧ Ext Mine G00 w G' w') (fun e _ => 40 - (intOf (e 12)).toNat)
    ⟨0, G4, by omega, by omega, by simp [upd, updO, ev], by simp [upd, updO, ev], by simp [upd, updO, ev, played, Dsk.zero], by simp [upd, updO, ev], by simp [upd, updO, ev], by simp [upd, updO, ev], by simp [upd, updO, ev], by simpa [played, Dsk.zero] using hc4, hd4, hr4, hx04⟩ ?_
  rintro e w5 ⟨i, G5, hi, hi40, e12, e0, e11, e8, e9, e6, e5, hc5, hd5, hr5, hx5⟩
  have hv5 := hv.ext hx5 (by simp)
  by_cases hlt : i < l.length
  · by_cases h40 : i < 40
    · have h40' : ((i : Int) < 40) := by omega
      obtain ⟨b, o, hia, hc0, hc1, hc2, hc3, hob⟩ := HasD.at hv5 hlt
      have htake : l.take (i + 1) = l.take i ++ [l[i]] := List.take_succ_eq_append_getElem hlt
      have hl4 := loadN4 hc0 hc1 hc2 hc3
      generalize hx : l[i] = x at hc0 hc1 hc2 hc3 htake hl4
      have hsnoc : played (Dsk.zero 5) (l.take (i + 1)) = x.on (played (Dsk.zero 5) (l.take i)) := by rw [htake, played_snoc]
      have hPf : (played (Dsk.zero 5) (l.take i)).first.length = 5 := by rw [played_first]; simp [Dsk.zero]
      have hcutP := hcutI i hi40
      have hcutS := hcutI (i + 1) (by omega)
      generalize played (Dsk.zero 5) (l.take i) = P at hsnoc hPf hcutP e11 hc5
      generalize hQdef : played (Dsk.zero 5) (l.take (i + 1)) = Q at hsnoc hcutS
      have hPlen : P.ops.length ≤ D.ops.length := by
        have := congrArg (fun d => d.ops.length) hcutP
        simp only [Dsk.cut, List.length_take] at this; omega
      have hval : Value.agg #[.bool x.fl, .int .i64 x.n, .int .i64 x.len, .int .u8 (x.b.toNat : Int)] = x.val := rfl
      have hsz := x.size_le
      have hbl := x.bytes_length
      have hCf : ∀ m, (D.cut m).first.length = 5 := fun m => hf5
      have hCo : ∀ m, (D.cut m).ops.length < 1000 := fun m => by have := D.cut_ops m; omega
      -- what is left out
      have skip : x.on P = P → Q = P := fun h => by rw [hsnoc, h]
      by_cases hfl : x.fl = true
      · rw [hfl] at hc0
        have hon : Q = P.add .fl := by rw [hsnoc]; simp [Deed.on, hfl]
        have hQl : Q.ops.length = P.ops.length + 1 := by rw [hon]; simp [Dsk.add]
        by_cases hge : n ≤ P.ops.length
        · have hge' : (n : Int) ≤ (P.ops.length : Int) := by omega
          have hmx : max n P.ops.length = P.ops.length := by omega
          have hmx' : max n Q.ops.length = Q.ops.length := by omega
          rw [hmx, ← hcutP] at hc5
          simp (maxSteps := 1000000) (disch := omega) only [F10_L0, ↓sy1, sy2, sy3, readOK, implies_true, forall_const, Nat.reduceEqDiff, ↓reduceIte, Option.map_some, Option.map_none, List.map_cons, List.map_nil, oneOf, if_true, if_false, Nat.reduceAdd, Nat.reduceMul, Option.isNone_some, Option.isNone_none, List.getElem?_toArray, List.getElem?_cons_zero, List.getElem?_cons_succ, reduceCtorEq, e12, e0, e11, e8, e9, e6, e5, HasD.lenD hv5, Int.ofNat_lt, hlt, h40', decide_true, hia, hc0, hge']
          refine call0 (flush_spec hc5 (by omega)) ?_
          rintro _ w6 ⟨rfl, G6, hc6, hx6⟩
          simp (maxSteps := 1000000) (disch := omega) only [↓sy1, sy2, sy3, readOK, implies_true, forall_const, Nat.reduceEqDiff, ↓reduceIte, Option.map_some, Option.map_none, List.map_cons, List.map_nil, oneOf, if_true, if_false, Nat.reduceAdd, Nat.reduceMul, Option.isNone_some, Option.isNone_none, List.getElem?_toArray, List.getElem?_cons_zero, List.getElem?_cons_succ, reduceCtorEq, e12, e0, e11, e8, e9, e6, e5]
          refine R_out ⟨⟨i + 1, G6, by omega, by omega, rfl, by rw [hQdef, hQl]; rfl, by rw [hQdef, hmx', ← hcutS, hon]; exact hc6, hd5.ext hx6 (by omega), hr5.ext hx6 (by omega), hx5.trans (hx6.mono (fun c h => by omega))⟩, ?_⟩
          simp only [intOf]; omega
        · have hge' : ¬ (n : Int) ≤ (P.ops.length : Int) := by omega
          have hmx' : max n Q.ops.length = max n P.ops.length := by omega
          simp (maxSteps := 1000000) (disch := omega) only [F10_L0, ↓sy1, sy2, sy3, readOK, implies_true, forall_const, Nat.reduceEqDiff, ↓reduceIte, Option.map_some, Option.map_none, List.map_cons, List.map_nil, oneOf, if_true, if_false, Nat.reduceAdd, Nat.reduceMul, Option.isNone_some, Option.isNone_none, List.getElem?_toArray, List.getElem?_cons_zero, List.getElem?_cons_succ, reduceCtorEq, e12, e0, e11, e8, e9, e6, e5, HasD.lenD hv5, Int.ofNat_lt, hlt, h40', decide_true, decide_false, hia, hc0, hge']
          refine R_out ⟨⟨i + 1, G5, by omega, by omega, rfl, by rw [hQdef, hQl]; rfl, by rw [hQdef, hmx']; exact hc5, hd5, hr5, hx5⟩, ?_⟩
          simp only [intOf]; omega
      · have hfl' : x.fl = false := by simpa using hfl
        rw [hfl'] at hc0 hl4
        rw [hfl'] at hval
        by_cases hneg : x.n < 0
        · have hQ : Q = P := skip (by rw [Deed.on, hfl']; simp only [Bool.false_eq_true, if_false]; rw [wdone, if_neg (by omega)])
          simp (maxSteps := 1000000) (disch := omega) only [F10_L0, ↓sy1, sy2, sy3, readOK, implies_true, forall_const, Nat.reduceEqDiff, ↓reduceIte, Option.map_some, Option.map_none, List.map_cons, List.map_nil, oneOf, if_true, if_false, Nat.reduceAdd, Nat.reduceMul, Option.isNone_some, Option.isNone_none, List.getElem?_toArray, List.getElem?_cons_zero, List.getElem?_cons_succ, reduceCtorEq, e12, e0, e11, e8, e9, e6, e5, HasD.lenD hv5, Int.ofNat_lt, hlt, h40', decide_true, decide_false, hia, hc0, hc1, hneg]
          refine R_out ⟨⟨i + 1, G5, by omega, by omega, rfl, by rw [hQdef, hQ], by rw [hQdef, hQ]; exact hc5, hd5, hr5, hx5⟩, ?_⟩
          simp only [intOf]; omega
        by_cases hbig : 4 < x.n
        · have hQ : Q = P := skip (by rw [Deed.on, hfl']; simp only [Bool.false_eq_true, if_false]; rw [wdone, if_neg (by omega)])
          simp (maxSteps := 1000000) (disch := omega) only [F10_L0, ↓sy1, sy2, sy3, readOK, implies_true, forall_const, Nat.reduceEqDiff, ↓reduceIte, Option.map_some, Option.map_none, List.map_cons, List.map_nil, oneOf, if_true, if_false, Nat.reduceAdd, Nat.reduceMul, Option.isNone_some, Option.isNone_none, List.getElem?_toArray, List.getElem?_cons_zero, List.getElem?_cons_succ, reduceCtorEq, e12, e0, e11, e8, e9, e6, e5, HasD.lenD hv5, Int.ofNat_lt, hlt, h40', decide_true, decide_false, hia, hc0, hc1, hneg, hbig]
          refine R_out ⟨⟨i + 1, G5, by omega, by omega, rfl, by rw [hQdef, hQ], by rw [hQdef, hQ]; exact hc5, hd5, hr5, hx5⟩, ?_⟩
          simp only [intOf]; omega
        simp (maxSteps := 1000000) (disch := omega) only [F10_L0, ↓sy1, sy2, sy3, readOK, implies_true, forall_const, Nat.reduceEqDiff, ↓reduceIte, Option.map_some, Option.map_none, List.map_cons, List.map_nil, oneOf, if_true, if_false, Nat.reduceAdd, Nat.reduceMul, Option.isNone_some, Option.isNone_none, List.getElem?_toArray, List.getElem?_cons_zero, List.getElem?_cons_succ, reduceCtorEq, e12, e0, e11, e8, e9, e6, e5, HasD.lenD hv5, Int.ofNat_lt, hlt, h40', decide_true, decide_false, hia, hc0, hc1, hneg, hbig, hl4]
        rw [hval]
        refine call0 (bytes_spec x w5) ?_
        rintro bv w6 ⟨hbv, hg6⟩
        have hlb : ∀ w2, lenF w2 0 bv = some (.int .i64 x.size) := fun w2 => by rw [(Has.own hbv).lenB, hbl]
        have hx6 := hx5.trans (Ext.grow (κ := Mine) hg6)
        have hc06 := Keep.gcell hg6 hc0
        by_cases h512 : x.size = 512
        · have h512' : ((x.size : Int) = 512) = True := by simp [h512]
          have hon : ∀ C : Dsk, C.first.length = 5 → wdone C x.n x.bytes = C.add (.wr x.n.toNat x.bytes) := fun C hC => by rw [wdone, if_pos (by omega)]
          have honP : Q = P.add (.wr x.n.toNat x.bytes) := by rw [hsnoc, Deed.on, hfl']; simp only [Bool.false_eq_true, if_false]; exact hon P hPf
          have hQl : Q.ops.length = P.ops.length + 1 := by rw [honP]; simp [Dsk.add]
          by_cases hge : n ≤ P.ops.length
          · have hge' : (n : Int) ≤ (P.ops.length : Int) := by omega
            have hmx : max n P.ops.length = P.ops.length := by omega
            have hmx' : max n Q.ops.length = Q.ops.length := by omega
            rw [hmx, ← hcutP] at hc5
            simp (maxSteps := 1000000) (disch := omega) only [↓sy1, sy2, sy3, readOK, implies_true, forall_const, Nat.reduceEqDiff, ↓reduceIte, Option.map_some, Option.map_none, List.map_cons, List.map_nil, oneOf, if_true, if_false, Nat.reduceAdd, Nat.reduceMul, Option.isNone_some, Option.isNone_none, List.getElem?_toArray, List.getElem?_cons_zero, List.getElem?_cons_succ, reduceCtorEq, e12, e0, e11, e8, e9, e6, e5, hlb, h512', decide_true, hge', hia, hc06]
            refine draw10_0 (fun _ => False) ?_
            have hgd : Grow w6 w6.drew := (Keep.refl _ _).drew
            have hg7 := hg6.trans hgd
            have hc07 := Keep.gcell hg7 hc0
            have hc17 := Keep.gcell hg7 hc1
            have hc27 := Keep.gcell hg7 hc2
            have hc37 := Keep.gcell hg7 hc3
            generalize w6.drew = w7 at hg7 hc07 hc17 hc27 hc37 ⊢
            simp (maxSteps := 1000000) (disch := omega) only [PL10_0, ↓sy1, sy2, sy3, readOK, implies_true, forall_const, Nat.reduceEqDiff, ↓reduceIte, Option.map_some, Option.map_none, List.map_cons, List.map_nil, oneOf, if_true, if_false, Nat.reduceAdd, Nat.reduceMul, Option.isNone_some, Option.isNone_none, List.getElem?_toArray, List.getElem?_cons_zero, List.getElem?_cons_succ, reduceCtorEq, e12, e0, e11, e8, e9, e6, e5, hia, hc17, loadN4 hc07 hc17 hc27 hc37]
            rw [hval]
            refine ⟨Keep.refl _ _, ?_⟩
            refine call0 (bytes_spec x w7) ?_
            rintro cv w8 ⟨hcv, hg8⟩
            simp (maxSteps := 1000000) (disch := omega) only [↓sy1, sy2, sy3, readOK, implies_true, forall_const, Nat.reduceEqDiff, ↓reduceIte, Option.map_some, Option.map_none, List.map_cons, List.map_nil, oneOf, if_true, if_false, Nat.reduceAdd, Nat.reduceMul, Option.isNone_some, Option.isNone_none, List.getElem?_toArray, List.getElem?_cons_zero, List.getElem?_cons_succ, reduceCtorEq, e12, e0, e11, e8, e9, e6, e5]
            refine ⟨hg8, ?_⟩
            have hg58 := hg7.trans hg8
            have hxn : Ext0 G5 w5 (G5.new w5.heap.size) w8 := .newB hg58
            refine call0 (write_any (n := x.n) (hc5.ext hxn id) (Has.own hcv) (by omega)) ?_
            rintro _ w9 ⟨rfl, G9, hc9, hx9⟩
            rw [hon P hPf] at hc9
            simp (maxSteps := 1000000) (disch := omega) only [↓sy1, sy2, sy3, readOK, implies_true, forall_const, Nat.reduceEqDiff, ↓reduceIte, Option.map_some, Option.map_none, List.map_cons, List.map_nil, oneOf, if_true, if_false, Nat.reduceAdd, Nat.reduceMul, Option.isNone_some, Option.isNone_none, List.getElem?_toArray, List.getElem?_cons_zero, List.getElem?_cons_succ, reduceCtorEq, e12, e0, e11, e8, e9, e6, e5]
            refine R_out ⟨⟨i + 1, G9, by omega, by omega, rfl, by rw [hQdef, hQl]; rfl, by rw [hQdef, hmx', ← hcutS, honP]; exact hc9, (hd5.ext hxn id).ext hx9 (by omega), (hr5.ext hxn id).ext hx9 (by omega), (hx5.trans (hxn.mono (fun _ h => h.elim))).trans (hx9.mono (fun c h => by omega))⟩, ?_⟩
            simp only [intOf]; omega
          · have hge' : ¬ (n : Int) ≤ (P.ops.length : Int) := by omega
            have hmx' : max n Q.ops.length = max n P.ops.length := by omega
            simp (maxSteps := 1000000) (disch := omega) only [↓sy1, sy2, sy3, readOK, implies_true, forall_const, Nat.reduceEqDiff, ↓reduceIte, Option.map_some, Option.map_none, List.map_cons, List.map_nil, oneOf, if_true, if_false, Nat.reduceAdd, Nat.reduceMul, Option.isNone_some, Option.isNone_none, List.getElem?_toArray, List.getElem?_cons_zero, List.getElem?_cons_succ, reduceCtorEq, e12, e0, e11, e8, e9, e6, e5, hlb, h512', decide_true, decide_false, hge']
            refine R_out ⟨⟨i + 1, G5, by omega, by omega, rfl, by rw [hQdef, hQl]; rfl, by rw [hQdef, hmx']; exact hc5.grow hg6, hd5.grow hg6, hr5.grow hg6, hx6⟩, ?_⟩
            simp only [intOf]; omega
        · have h512' : ¬ ((x.size : Int) = 512) := by omega
          have hQ : Q = P := skip (by rw [Deed.on, hfl']; simp only [Bool.false_eq_true, if_false]; rw [wdone, if_neg (by omega)])
          simp (maxSteps := 1000000) (disch := omega) only [↓sy1, sy2, sy3, readOK, implies_true, forall_const, Nat.reduceEqDiff, ↓reduceIte, Option.map_some, Option.map_none, List.map_cons, List.map_nil, oneOf, if_true, if_false, Nat.reduceAdd, Nat.reduceMul, Option.isNone_some, Option.isNone_none, List.getElem?_toArray, List.getElem?_cons_zero, List.getElem?_cons_succ, reduceCtorEq, e12, e0, e11, e8, e9, e6, e5, hlb, h512', decide_true, decide_false]
          refine R_out ⟨⟨i + 1, G5, by omega, by omega, rfl, by rw [hQdef, hQ], by rw [hQdef, hQ]; exact hc5.grow hg6, hd5.grow hg6, hr5.grow hg6, hx6⟩, ?_⟩
          simp only [intOf]; omega
    · have h40' : ¬ ((i : Int) < 40) := by omega
      have hie : i = 40 := by omega
      subst hie
      rw [← hDD] at hc5 e11
      have hmx : max n D.ops.length = D.ops.length := by omega
      rw [hmx, D.cut_all] at hc5
      simp (maxSteps := 1000000) (disch := omega) only [F10_L0, ↓sy1, sy2, sy3, readOK, implies_true, forall_const, Nat.reduceEqDiff, ↓reduceIte, Option.map_some, Option.map_none, List.map_cons, List.map_nil, oneOf, if_true, if_false, Nat.reduceAdd, Nat.reduceMul, Option.isNone_some, Option.isNone_none, List.getElem?_toArray, List.getElem?_cons_zero, List.getElem?_cons_succ, reduceCtorEq, e12, e0, e11, e8, e9, e6, e5, HasD.lenD hv5, Int.ofNat_lt, hlt, h40', decide_true, decide_false]
      refine call0 (same01_spec hc5 hr5) ?_
      rintro _ w6 ⟨rfl, hg6⟩
      simp (maxSteps := 1000000) (disch := omega) only [↓sy1, sy2, sy3, readOK, implies_true, forall_const, Nat.reduceEqDiff, ↓reduceIte, Option.map_some, Option.map_none, List.map_cons, List.map_nil, oneOf, if_true, if_false, Nat.reduceAdd, Nat.reduceMul, Option.isNone_some, Option.isNone_none, List.getElem?_toArray, List.getElem?_cons_zero, List.getElem?_cons_succ, reduceCtorEq, e12, e0, e11, e8, e9, e6, e5]
      refine call0 (ops_spec (hd5.grow hg6)) ?_
      rintro _ w7 ⟨rfl, rfl⟩
      simp (maxSteps := 1000000) (disch := omega) only [↓sy1, sy2, sy3, readOK, implies_true, forall_const, Nat.reduceEqDiff, ↓reduceIte, Option.map_some, Option.map_none, List.map_cons, List.map_nil, oneOf, if_true, if_false, Nat.reduceAdd, Nat.reduceMul, Option.isNone_some, Option.isNone_none, List.getElem?_toArray, List.getElem?_cons_zero, List.getElem?_cons_succ, reduceCtorEq, e12, e0, e11, e8, e9, e6, e5, decide_true]
      exact R_out ((hx5.toGrow (by simp)).trans hg6)
  · have hie : l.take i = l.take 40 := by rw [List.take_of_length_le (by omega), List.take_of_length_le (by omega)]
    rw [hie, ← hDD] at hc5 e11
    have hmx : max n D.ops.length = D.ops.length := by omega
    rw [hmx, D.cut_all] at hc5
    simp (maxSteps := 1000000) (disch := omega) only [F10_L0, ↓sy1, sy2, sy3, readOK, implies_true, forall_const, Nat.reduceEqDiff, ↓reduceIte, Option.map_some, Option.map_none, List.map_cons, List.map_nil, oneOf, if_true, if_false, Nat.reduceAdd, Nat.reduceMul, Option.isNone_some, Option.isNone_none, List.getElem?_toArray, List.getElem?_cons_zero, List.getElem?_cons_succ, reduceCtorEq, e12, e0, e11, e8, e9, e6, e5, HasD.lenD hv5, Int.ofNat_lt, hlt, decide_false]
    refine call0 (same01_spec hc5 hr5) ?_
    rintro _ w6 ⟨rfl, hg6⟩
    simp (maxSteps := 1000000) (disch := omega) only [↓sy1, sy2, sy3, readOK, implies_true, forall_const, Nat.reduceEqDiff, ↓reduceIte, Option.map_some, Option.map_none, List.map_cons, List.map_nil, oneOf, if_true, if_false, Nat.reduceAdd, Nat.reduceMul, Option.isNone_some, Option.isNone_none, List.getElem?_toArray, List.getElem?_cons_zero, List.getElem?_cons_succ, reduceCtorEq, e12, e0, e11, e8, e9, e6, e5]
    refine call0 (ops_spec (hd5.grow hg6)) ?_
    rintro _ w7 ⟨rfl, rfl⟩
    simp (maxSteps := 1000000) (disch := omega) only [↓sy1, sy2, sy3, readOK, implies_true, forall_const, Nat.reduceEqDiff, ↓reduceIte, Option.map_some, Option.map_none, List.map_cons, List.map_nil, oneOf, if_true, if_false, Nat.reduceAdd, Nat.reduceMul, Option.isNone_some, Option.isNone_none, List.getElem?_toArray, List.getElem?_cons_zero, List.getElem?_cons_succ, reduceCtorEq, e12, e0, e11, e8, e9, e6, e5, decide_true]
    exact R_out ((hx5.toGrow (by simp)).trans hg6)
end Go.Proofs.Ytaeejceljgjdkaa
