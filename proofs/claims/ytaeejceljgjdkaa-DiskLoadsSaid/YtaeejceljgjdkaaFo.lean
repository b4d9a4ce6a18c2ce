/- DiskForks: the walk. -/
import Derived.Test.YtaeejceljgjdkaaFk
import Derived.Test.YtaeejceljgjdkaaRe
import Derived.Test.YtaeejceljgjdkaaBe
namespace Go.Proofs.Ytaeejceljgjdkaa
open Go
set_option linter.unusedSimpArgs false
open Go.RowKit (intOf)
/-- A sector of one's own, whatever stands in it. -/
def Byt (B : Nat) (w : World) (u : Value) : Prop := ∃ g cap cur, u = .slice (some ⟨g, 0, none⟩) 512 cap ∧ B ≤ g ∧ w.heap[g]? = some (.cells cur 5 (0, 0)) ∧ 512 ≤ cur.size ∧ 512 ≤ cap
theorem Byt.of {B : Nat} {w : World} {u : Value} {xs : List Value} (h : w.ownsRow B 5 1 u 512 xs) : Byt B w u := by
  obtain ⟨h0, ⟨_, h⟩ | ⟨g, cap, cur, hv, h2, h3, h4, h5, h6, h7⟩⟩ := h
  · cases h
  · exact ⟨g, cap, cur, hv, h2, h3, by omega, h4⟩
theorem Byt.keep {S : Nat → Prop} {B : Nat} {w w' : World} {u : Value} (h : Byt B w u) (hk : Keep S w w') (hs : ∀ b, B ≤ b → ¬ S b) : Byt B w' u := by
  obtain ⟨g, cap, cur, hv, h2, h3, h4⟩ := h
  exact ⟨g, cap, cur, hv, h2, hk.heap h3 (hs g h2), h4⟩
theorem Byt.store {B : Nat} {w : World} {u : Value} (x : Int) (h : Byt B w u) : ∃ g w' cur, iaF 1 u (.int .i64 0) = some (.pointer (some ⟨g, 0, none⟩)) ∧ stF w (.pointer (some ⟨g, 0, none⟩)) (.int .u8 x) = some (undef, w') ∧ B ≤ g ∧ w.heap[g]? = some (.cells cur 5 (0, 0)) ∧
    Keep (fun b => b = g) w w' ∧ ∀ B' u', Byt B' w u' → Byt B' w' u' := by
  obtain ⟨g, cap, cur, rfl, h2, h3, h4, h5⟩ := h
  obtain ⟨w', hst, hh, hk⟩ := cell_store h3 (i := 0) (by omega) (u := .int .u8 x) rfl
  refine ⟨g, w', cur, ?_, hst, h2, h3, hk, fun B' u' ⟨g', cap', cur', hv', h2', h3', h4', h5'⟩ => ?_⟩
  · exact (iaF_s (a := 0) (by omega)).trans (by simp [add_lit])
  · by_cases hg : g' = g
    · subst hg
      rw [h3] at h3'; cases h3'
      exact ⟨g', cap', _, hv', h2', hh, by simpa using h4', h5'⟩
    · exact ⟨g', cap', cur', hv', h2', hk.heap h3' hg, h4', h5'⟩
theorem own_keepT {B n g : Nat} {el t' : TypeId} {w w' : World} {v : Value} {xs : List Value} {cur : Array Value} (h : w.ownsRow B el 1 v n xs) (hk : Keep (fun b => b = g) w w') (hh : w.heap[g]? = some (.cells cur t' (0, 0))) (hne : el ≠ t') : w'.ownsRow B el 1 v n xs :=
  own_keep h hk (fun b hb hbg => by
    obtain ⟨_, ⟨h, _⟩ | ⟨g', cap, cur', hvv, _, hh', _⟩⟩ := h
    · rw [h] at hb; cases hb
    · rw [hvv] at hb; cases hb
      have hgg : g' = g := hbg
      rw [hgg, hh] at hh'; cases hh'; exact hne rfl)
theorem RowsO.byt {B : Nat} {w : World} : ∀ {vs : List Value} {ls : List (List UInt8)}, RowsO B 5 w vs ls → (∀ l ∈ ls, l.length = 512) → ∀ u ∈ vs, Byt B w u
  | [], _, _, _, u, hu => by cases hu
  | v :: vs, l :: ls, ⟨h1, h2⟩, hl, u, hu => by
    rcases List.mem_cons.1 hu with rfl | hu
    · rw [hl l (by simp)] at h1; exact .of h1
    · exact RowsO.byt h2 (fun l h => hl l (by simp [h])) u hu
theorem diskForks_walk {w : World} {lv mv : Value} {l m : List Deed} (hv : HasD w lv l) (hm : HasD w mv m) :
    Calls Try.prog 11 #[lv, mv] w (Ret fun v w' => v = .bool true ∧ Grow w w') := by
  apply enter11
  apply R_in
  simp (maxSteps := 1000000) (disch := omega) only [F11, ↓sy1, sy2, sy3, readOK, implies_true, forall_const, Nat.reduceEqDiff, ↓reduceIte, Option.map_some, Option.map_none, List.map_cons, List.map_nil, oneOf, if_true, if_false, Nat.reduceAdd, Nat.reduceMul, Option.isNone_some, Option.isNone_none, List.getElem?_toArray, List.getElem?_cons_zero, List.getElem?_cons_succ, reduceCtorEq]
  refine call0 (play_spec (n := 4) hv (by omega) (by omega)) ?_
  rintro _ w1 ⟨p, r, G1, rfl, hd1, hr1, hx1⟩
  have hf4 := played_first (l.take 40) (Dsk.zero 4)
  have hops := played_ops (l.take 40) (Dsk.zero 4)
  rw [show (Dsk.zero 4).ops.length = 0 from rfl, List.length_take] at hops
  generalize played (Dsk.zero 4) (l.take 40) = D at hd1 hr1 hf4 hops
  have hf : D.first.length = 4 := by rw [hf4]; simp [Dsk.zero]
  simp (maxSteps := 1000000) (disch := omega) only [↓sy1, sy2, sy3, readOK, implies_true, forall_const, Nat.reduceEqDiff, ↓reduceIte, Option.map_some, Option.map_none, List.map_cons, List.map_nil, oneOf, if_true, if_false, Nat.reduceAdd, Nat.reduceMul, Option.isNone_some, Option.isNone_none, List.getElem?_toArray, List.getElem?_cons_zero, List.getElem?_cons_succ, reduceCtorEq]
  refine call0 (live_spec w1) ?_
  rintro _ w2 ⟨rfl, hg2⟩
  have hd2 := hd1.grow hg2
  have hr2 := hr1.grow hg2
  have hx2 := hx1.trans (Ext.grow (κ := Mine) hg2)
  simp (maxSteps := 1000000) (disch := omega) only [↓sy1, sy2, sy3, readOK, implies_true, forall_const, Nat.reduceEqDiff, ↓reduceIte, Option.map_some, Option.map_none, List.map_cons, List.map_nil, oneOf, if_true, if_false, Nat.reduceAdd, Nat.reduceMul, Option.isNone_some, Option.isNone_none, List.getElem?_toArray, List.getElem?_cons_zero, List.getElem?_cons_succ, reduceCtorEq]
  refine call0 (fork_spec 4 hd2) ?_
  rintro _ w3 ⟨q, G3, rfl, hq3, hf3, hx3⟩
  have hd3 := hd2.ext hx3 id
  have hr3 := hr2.ext hx3 id
  have hx03 : Ext Mine G00 w G3 w3 := hx2.trans (hx3.mono (fun _ h => h.elim))
  simp (maxSteps := 1000000) (disch := omega) only [↓sy1, sy2, sy3, readOK, implies_true, forall_const, Nat.reduceEqDiff, ↓reduceIte, Option.map_some, Option.map_none, List.map_cons, List.map_nil, oneOf, if_true, if_false, Nat.reduceAdd, Nat.reduceMul, Option.isNone_some, Option.isNone_none, List.getElem?_toArray, List.getElem?_cons_zero, List.getElem?_cons_succ, reduceCtorEq]
  refine loop_rule (fun e w' => ∃ (i : Nat) (G' : Gh), i ≤ m.length ∧ i ≤ 40 ∧ e 9 = .int .i64 i ∧ e 1 = mv ∧ e 8 = .pointer (some ⟨q, 0, none⟩) ∧ e 5 = .pointer (some ⟨p, 0, none⟩) ∧ e 6 = .pointer (some ⟨r, 0, none⟩) ∧
      DiskAt G' 4 w' q (played D (m.take i)) ∧ DiskAt G' 1 w' p D ∧ RefAt G' 2 w' r D ∧ Ext Mine G00 w G' w') (fun e _ => 40 - (intOf (e 9)).toNat)
    ⟨0, G3, by omega, by omega, by simp [upd, updO, ev], by simp [upd, updO, ev], by simp [upd, updO, ev], by simp [upd, updO, ev], by simp [upd, updO, ev], by simpa [played] using hf3, hd3, hr3, hx03⟩ ?_
  rintro e w5 ⟨i, G5, hi, hi40, e9, e1, e8, e5, e6, hf5, hd5, hr5, hx5⟩
  have hm5 := hm.ext hx5 (by simp)
  have hfo := played_ops (m.take i) D
  rw [List.length_take] at hfo
  have rest : ∀ e9' : Bool, True := fun _ => trivial
  by_cases hgo : i < m.length ∧ i < 40
  · obtain ⟨hlt, h40⟩ := hgo
    have h40' : ((i : Int) < 40) := by omega
    obtain ⟨b, o, hia, hc0, hc1, hc2, hc3, hob⟩ := HasD.at hm5 hlt
    have htake : m.take (i + 1) = m.take i ++ [m[i]] := List.take_succ_eq_append_getElem hlt
    generalize m[i] = x at hc0 hc1 hc2 hc3 htake
    have hsnoc : played D (m.take (i + 1)) = x.on (played D (m.take i)) := by rw [htake, played_snoc]
    generalize played D (m.take i) = F at hf5 hfo hsnoc
    by_cases hfl : x.fl = true
    · rw [hfl] at hc0
      simp (maxSteps := 1000000) (disch := omega) only [F11_L0, ↓sy1, sy2, sy3, readOK, implies_true, forall_const, Nat.reduceEqDiff, ↓reduceIte, Option.map_some, Option.map_none, List.map_cons, List.map_nil, oneOf, if_true, if_false, Nat.reduceAdd, Nat.reduceMul, Option.isNone_some, Option.isNone_none, List.getElem?_toArray, List.getElem?_cons_zero, List.getElem?_cons_succ, reduceCtorEq, e9, e1, e8, e5, e6, HasD.lenD hm5, Int.ofNat_lt, hlt, h40', decide_true, hia, hc0]
      refine call0 (flush_spec hf5 (by omega)) ?_
      rintro _ w6 ⟨rfl, G6, hf6, hx6⟩
      simp (maxSteps := 1000000) (disch := omega) only [↓sy1, sy2, sy3, readOK, implies_true, forall_const, Nat.reduceEqDiff, ↓reduceIte, Option.map_some, Option.map_none, List.map_cons, List.map_nil, oneOf, if_true, if_false, Nat.reduceAdd, Nat.reduceMul, Option.isNone_some, Option.isNone_none, List.getElem?_toArray, List.getElem?_cons_zero, List.getElem?_cons_succ, reduceCtorEq, e9, e1, e8, e5, e6]
      refine R_out ⟨⟨i + 1, G6, by omega, by omega, rfl, by rw [hsnoc, Deed.on, if_pos hfl]; exact hf6, hd5.ext hx6 (by omega), hr5.ext hx6 (by omega), hx5.trans (hx6.mono (fun c h => by omega))⟩, ?_⟩
      simp only [intOf]; omega
    · have hfl' : x.fl = false := by simpa using hfl
      have hval : Value.agg #[.bool x.fl, .int .i64 x.n, .int .i64 x.len, .int .u8 (x.b.toNat : Int)] = x.val := rfl
      rw [hfl'] at hval
      rw [hfl'] at hc0
      simp (maxSteps := 1000000) (disch := omega) only [F11_L0, ↓sy1, sy2, sy3, readOK, implies_true, forall_const, Nat.reduceEqDiff, ↓reduceIte, Option.map_some, Option.map_none, List.map_cons, List.map_nil, oneOf, if_true, if_false, Nat.reduceAdd, Nat.reduceMul, Option.isNone_some, Option.isNone_none, List.getElem?_toArray, List.getElem?_cons_zero, List.getElem?_cons_succ, reduceCtorEq, e9, e1, e8, e5, e6, HasD.lenD hm5, Int.ofNat_lt, hlt, h40', decide_true, hia, hc0]
      refine draw11_0 (fun _ => False) ?_
      have hgd : Grow w5 w5.drew := (Keep.refl _ _).drew
      have hc07 := Keep.gcell hgd hc0
      have hc17 := Keep.gcell hgd hc1
      have hc27 := Keep.gcell hgd hc2
      have hc37 := Keep.gcell hgd hc3
      generalize w5.drew = w7 at hgd hc07 hc17 hc27 hc37 ⊢
      simp (maxSteps := 1000000) (disch := omega) only [PL11_0, ↓sy1, sy2, sy3, readOK, implies_true, forall_const, Nat.reduceEqDiff, ↓reduceIte, Option.map_some, Option.map_none, List.map_cons, List.map_nil, oneOf, if_true, if_false, Nat.reduceAdd, Nat.reduceMul, Option.isNone_some, Option.isNone_none, List.getElem?_toArray, List.getElem?_cons_zero, List.getElem?_cons_succ, reduceCtorEq, e9, e1, e8, e5, e6, hia, hc17, loadN4 hc07 hc17 hc27 hc37]
      rw [hval]
      refine ⟨Keep.refl _ _, ?_⟩
      refine call0 (bytes_spec x w7) ?_
      rintro cv w8 ⟨hcv, hg8⟩
      simp (maxSteps := 1000000) (disch := omega) only [↓sy1, sy2, sy3, readOK, implies_true, forall_const, Nat.reduceEqDiff, ↓reduceIte, Option.map_some, Option.map_none, List.map_cons, List.map_nil, oneOf, if_true, if_false, Nat.reduceAdd, Nat.reduceMul, Option.isNone_some, Option.isNone_none, List.getElem?_toArray, List.getElem?_cons_zero, List.getElem?_cons_succ, reduceCtorEq, e9, e1, e8, e5, e6]
      refine ⟨hg8, ?_⟩
      have hxn : Ext0 G5 w5 (G5.new w5.heap.size) w8 := .newB (hgd.trans hg8)
      refine call0 (write_any (n := x.n) (hf5.ext hxn id) (Has.own hcv) (by omega)) ?_
      rintro _ w9 ⟨rfl, G9, hf9, hx9⟩
      simp (maxSteps := 1000000) (disch := omega) only [↓sy1, sy2, sy3, readOK, implies_true, forall_const, Nat.reduceEqDiff, ↓reduceIte, Option.map_some, Option.map_none, List.map_cons, List.map_nil, oneOf, if_true, if_false, Nat.reduceAdd, Nat.reduceMul, Option.isNone_some, Option.isNone_none, List.getElem?_toArray, List.getElem?_cons_zero, List.getElem?_cons_succ, reduceCtorEq, e9, e1, e8, e5, e6]
      refine R_out ⟨⟨i + 1, G9, by omega, by omega, rfl, by rw [hsnoc, Deed.on, if_neg hfl]; exact hf9, (hd5.ext hxn id).ext hx9 (by omega), (hr5.ext hxn id).ext hx9 (by omega), (hx5.trans (hxn.mono (fun _ h => h.elim))).trans (hx9.mono (fun c h => by omega))⟩, ?_⟩
      simp only [intOf]; omega
  have hmore := played_more (m.take i) D
  generalize played D (m.take i) = F at hf5 hfo hmore
  obtain ⟨os, hos⟩ := hmore
  have hFD : D.ops.length ≤ F.ops.length := by rw [hos]; simp
  have hstop : (i < m.length ∧ ¬ ((i : Int) < 40)) ∨ ¬ i < m.length := by omega
  have hgoal : R (symS 104 Try.prog F11_L0 ⟨fun _ _ => False, fun _ _ _ => False, fun _ _ => False, NoPanic⟩ e w5) → True := fun _ => trivial
  have hok := hd5.ok
  have hdl : D.image.length = 4 := by rw [D.image_length, hf]
  have hsl : D.safe.length = 4 := by rw [D.safe_length, hf]
  rcases hstop with ⟨hlt, h40'⟩ | hlt
  all_goals
    first
    | simp (maxSteps := 1000000) (disch := omega) only [F11_L0, ↓sy1, sy2, sy3, readOK, implies_true, forall_const, Nat.reduceEqDiff, ↓reduceIte, Option.map_some, Option.map_none, List.map_cons, List.map_nil, oneOf, if_true, if_false, Nat.reduceAdd, Nat.reduceMul, Option.isNone_some, Option.isNone_none, List.getElem?_toArray, List.getElem?_cons_zero, List.getElem?_cons_succ, reduceCtorEq, e9, e1, e8, e5, e6, HasD.lenD hm5, Int.ofNat_lt, hlt, h40', decide_true, decide_false]
    | simp (maxSteps := 1000000) (disch := omega) only [F11_L0, ↓sy1, sy2, sy3, readOK, implies_true, forall_const, Nat.reduceEqDiff, ↓reduceIte, Option.map_some, Option.map_none, List.map_cons, List.map_nil, oneOf, if_true, if_false, Nat.reduceAdd, Nat.reduceMul, Option.isNone_some, Option.isNone_none, List.getElem?_toArray, List.getElem?_cons_zero, List.getElem?_cons_succ, reduceCtorEq, e9, e1, e8, e5, e6, HasD.lenD hm5, Int.ofNat_lt, hlt, decide_true, decide_false]
    refine call0 (image_spec hd5) ?_
    rintro xv w9 ⟨hxv, hg9⟩
    simp (maxSteps := 1000000) (disch := omega) only [↓sy1, sy2, sy3, readOK, implies_true, forall_const, Nat.reduceEqDiff, ↓reduceIte, Option.map_some, Option.map_none, List.map_cons, List.map_nil, oneOf, if_true, if_false, Nat.reduceAdd, Nat.reduceMul, Option.isNone_some, Option.isNone_none, List.getElem?_toArray, List.getElem?_cons_zero, List.getElem?_cons_succ, reduceCtorEq, e9, e1, e8, e5, e6]
    refine call0 (safe_spec (hd5.grow hg9)) ?_
    rintro yv w10 ⟨hyv, hg10⟩
    simp (maxSteps := 1000000) (disch := omega) only [↓sy1, sy2, sy3, readOK, implies_true, forall_const, Nat.reduceEqDiff, ↓reduceIte, Option.map_some, Option.map_none, List.map_cons, List.map_nil, oneOf, if_true, if_false, Nat.reduceAdd, Nat.reduceMul, Option.isNone_some, Option.isNone_none, List.getElem?_toArray, List.getElem?_cons_zero, List.getElem?_cons_succ, reduceCtorEq, e9, e1, e8, e5, e6]
    have hg510 := hg9.trans hg10
    have hxm : Ext0 G5 w5 (G5.upto w5.heap.size (fun _ => 3) (fun _ => 0)) w10 := .upto hg510 _ _
    have hmark : ∀ b, w5.heap.size ≤ b → (G5.upto w5.heap.size (fun _ => 3) (fun _ => 0)).own b = 3 ∧ (G5.upto w5.heap.size (fun _ => 3) (fun _ => 0)).fix b = 0 := fun b hb => by simp [Gh.upto, Nat.not_lt.2 hb]
    generalize G5.upto w5.heap.size (fun _ => 3) (fun _ => 0) = Gm at hxm hmark
    have hd10 := hd5.ext hxm id
    have hr10 := hr5.ext hxm id
    have hf10 := hf5.ext hxm id
    obtain ⟨vx, hox, hrx⟩ := hxv.grow hg10
    obtain ⟨vy, hoy, hry⟩ := hyv
    have hbx := hrx.byt hok.image
    have hby : ∀ u ∈ vy, Byt w5.heap.size w10 u := fun u hu => by
      obtain ⟨g, cap, cur, h1, h2, h3⟩ := hry.byt hok.safe u hu
      exact ⟨g, cap, cur, h1, Nat.le_trans hg9.size h2, h3⟩
    rw [hdl] at hox
    rw [hsl] at hoy
    have hoy := own_base hoy hg9.size
    refine loop_rule (fun e w' => ∃ i : Nat, i ≤ 4 ∧ e 12 = .int .i64 i ∧ e 10 = xv ∧ e 11 = yv ∧ e 8 = .pointer (some ⟨q, 0, none⟩) ∧ e 5 = .pointer (some ⟨p, 0, none⟩) ∧ e 6 = .pointer (some ⟨r, 0, none⟩) ∧
        w'.ownsRow w5.heap.size 37 1 xv 4 vx ∧ w'.ownsRow w5.heap.size 37 1 yv 4 vy ∧ (∀ u ∈ vx, Byt w5.heap.size w' u) ∧ (∀ u ∈ vy, Byt w5.heap.size w' u) ∧ Ext (fun c => c = 3) Gm w10 Gm w') (fun e _ => 4 - (intOf (e 12)).toNat)
      ⟨0, by omega, by simp [upd, updO, ev], by simp [upd, updO, ev], by simp [upd, updO, ev], by simp [upd, updO, ev, e8], by simp [upd, updO, ev, e5], by simp [upd, updO, ev, e6], hox, hoy, hbx, hby, .refl _ _ _⟩ ?_
    clear e9 e1 e8 e5 e6
    rintro e w11 ⟨i, hi, e12, e10, e11, e8, e5, e6, hox11, hoy11, hbx11, hby11, hx11⟩
    have hxl : vx.length = 4 := by simpa using hox11.1
    have hyl : vy.length = 4 := by simpa using hoy11.1
    have hlen : ∀ w', lenF w' 0 xv = some (.int .i64 4) := fun w' => by rw [(Has.own hox11).len, hxl]; rfl
    by_cases hlt4 : i < 4
    · have hlt' : ((i : Int) < 4) := by omega
      simp (maxSteps := 1000000) (disch := omega) only [F11_L1, ↓sy1, sy2, sy3, readOK, implies_true, forall_const, Nat.reduceEqDiff, ↓reduceIte, Option.map_some, Option.map_none, List.map_cons, List.map_nil, oneOf, if_true, if_false, Nat.reduceAdd, Nat.reduceMul, Option.isNone_some, Option.isNone_none, List.getElem?_toArray, List.getElem?_cons_zero, List.getElem?_cons_succ, reduceCtorEq, e12, e10, e11, e8, e5, e6, hlen, hlt', decide_true]
      refine draw11_1 (fun _ => False) ?_
      have hgd : Grow w11 w11.drew := (Keep.refl _ _).drew
      have hx12 : Ext (fun c => c = 3) Gm w10 Gm w11.drew := hx11.trans (.grow hgd)
      have hox12 := own_grow hox11 hgd
      have hoy12 := own_grow hoy11 hgd
      have hbx12 : ∀ u ∈ vx, Byt w5.heap.size w11.drew u := fun u hu => (hbx11 u hu).keep hgd (fun _ _ => id)
      have hby12 : ∀ u ∈ vy, Byt w5.heap.size w11.drew u := fun u hu => (hby11 u hu).keep hgd (fun _ _ => id)
      generalize w11.drew = w12 at hx12 hox12 hoy12 hbx12 hby12 ⊢
      obtain ⟨xa, hxa, hxac, _⟩ := (Has.own hox12).idx (i := i) (by omega)
      obtain ⟨ya, hya, hyac, _⟩ := (Has.own hoy12).idx (i := i) (by omega)
      obtain ⟨g, w13, cur, hia1, hst1, hB1, hh1, hk1, hall1⟩ := (hbx12 _ (List.getElem_mem (show i < vx.length by omega))).store 200
      have hby13 := fun u hu => hall1 _ u (hby12 u hu)
      obtain ⟨g2, w14, cur2, hia2, hst2, hB2, hh2, hk2, hall2⟩ := (hby13 _ (List.getElem_mem (show i < vy.length by omega))).store 201
      simp (maxSteps := 1000000) (disch := omega) only [PL11_1, ↓sy1, sy2, sy3, readOK, implies_true, forall_const, Nat.reduceEqDiff, ↓reduceIte, Option.map_some, Option.map_none, List.map_cons, List.map_nil, oneOf, if_true, if_false, Nat.reduceAdd, Nat.reduceMul, Option.isNone_some, Option.isNone_none, List.getElem?_toArray, List.getElem?_cons_zero, List.getElem?_cons_succ, reduceCtorEq, e12, e10, e11, e8, e5, e6, hxa, hxac, hya, hyac, hia1, hst1, hia2, hst2]
      have hxs1 : Ext (fun c => c = 3) Gm w12 Gm w13 := .on0 hk1 (hmark g hB1).1 (hmark g hB1).2
      have hxs2 : Ext (fun c => c = 3) Gm w13 Gm w14 := .on0 hk2 (hmark g2 hB2).1 (hmark g2 hB2).2
      refine R_out ⟨⟨i + 1, by omega, rfl, own_keepT (own_keepT hox12 hk1 hh1 (by decide)) hk2 hh2 (by decide), own_keepT (own_keepT hoy12 hk1 hh1 (by decide)) hk2 hh2 (by decide),
        fun u hu => hall2 _ u (hall1 _ u (hbx12 u hu)), fun u hu => hall2 _ u (hby13 u hu), (hx12.trans hxs1).trans hxs2⟩, ?_⟩
      simp only [intOf]; omega
    · have hlt' : ¬ ((i : Int) < 4) := by omega
      simp (maxSteps := 1000000) (disch := omega) only [F11_L1, ↓sy1, sy2, sy3, readOK, implies_true, forall_const, Nat.reduceEqDiff, ↓reduceIte, Option.map_some, Option.map_none, List.map_cons, List.map_nil, oneOf, if_true, if_false, Nat.reduceAdd, Nat.reduceMul, Option.isNone_some, Option.isNone_none, List.getElem?_toArray, List.getElem?_cons_zero, List.getElem?_cons_succ, reduceCtorEq, e12, e10, e11, e8, e5, e6, hlen, hlt', decide_false]
      have hd11 := hd10.ext hx11 (by omega)
      have hr11 := hr10.ext hx11 (by omega)
      have hf11 := hf10.ext hx11 (by omega)
      refine call0 (read_spec (n := 0) hd11 (by omega)) ?_
      rintro _ w12 ⟨bv, rfl, hbv, hg12⟩
      have hbv0 : Byt w5.heap.size w12 bv := by
        obtain ⟨g, cap, cur, h1, h2, h3⟩ := Byt.of hbv
        exact ⟨g, cap, cur, h1, Nat.le_trans (Nat.le_trans hg510.size hx11.size) h2, h3⟩
      have hb512 : (bs (D.image[0]'(by omega))).length = 512 := by
        have := hbv.1; simpa using this
      have hlb : ∀ w', lenF w' 0 bv = some (.int .i64 512) := fun w' => by rw [(Has.own hbv).len, hb512]; rfl
      obtain ⟨g, w13, cur, hia1, hst1, hB1, hh1, hk1, _⟩ := hbv0.store 202
      simp (maxSteps := 1000000) (disch := omega) only [↓sy1, sy2, sy3, readOK, implies_true, forall_const, Nat.reduceEqDiff, ↓reduceIte, Option.map_some, Option.map_none, List.map_cons, List.map_nil, oneOf, if_true, if_false, Nat.reduceAdd, Nat.reduceMul, Option.isNone_some, Option.isNone_none, List.getElem?_toArray, List.getElem?_cons_zero, List.getElem?_cons_succ, reduceCtorEq, e12, e10, e11, e8, e5, e6, hlb, hia1, hst1]
      have hx12 : Ext (fun c => c = 3) Gm w11 Gm w12 := .grow hg12
      have hx13 : Ext (fun c => c = 3) Gm w12 Gm w13 := .on0 hk1 (hmark g hB1).1 (hmark g hB1).2
      have hd13 := (hd11.ext hx12 (by omega)).ext hx13 (by omega)
      have hr13 := (hr11.ext hx12 (by omega)).ext hx13 (by omega)
      have hf13 := (hf11.ext hx12 (by omega)).ext hx13 (by omega)
      have hx013 : Ext Mine G00 w Gm w13 := (((hx5.trans (hxm.mono (fun _ h => h.elim))).trans (hx11.mono (fun c h => by omega))).trans (hx12.mono (fun c h => by omega))).trans (hx13.mono (fun c h => by omega))
      refine call0 (same01_spec hd13 hr13) ?_
      rintro _ w14 ⟨rfl, hg14⟩
      simp (maxSteps := 1000000) (disch := omega) only [↓sy1, sy2, sy3, readOK, implies_true, forall_const, Nat.reduceEqDiff, ↓reduceIte, Option.map_some, Option.map_none, List.map_cons, List.map_nil, oneOf, if_true, if_false, Nat.reduceAdd, Nat.reduceMul, Option.isNone_some, Option.isNone_none, List.getElem?_toArray, List.getElem?_cons_zero, List.getElem?_cons_succ, reduceCtorEq, e12, e10, e11, e8, e5, e6]
      refine call0 (ops_spec (hf13.grow hg14)) ?_
      rintro _ w15 ⟨rfl, rfl⟩
      simp (maxSteps := 1000000) (disch := omega) only [↓sy1, sy2, sy3, readOK, implies_true, forall_const, Nat.reduceEqDiff, ↓reduceIte, Option.map_some, Option.map_none, List.map_cons, List.map_nil, oneOf, if_true, if_false, Nat.reduceAdd, Nat.reduceMul, Option.isNone_some, Option.isNone_none, List.getElem?_toArray, List.getElem?_cons_zero, List.getElem?_cons_succ, reduceCtorEq, e12, e10, e11, e8, e5, e6]
      refine call0 (ops_spec (hd13.grow hg14)) ?_
      rintro _ w16 ⟨rfl, rfl⟩
      simp (maxSteps := 1000000) (disch := omega) only [↓sy1, sy2, sy3, readOK, implies_true, forall_const, Nat.reduceEqDiff, ↓reduceIte, Option.map_some, Option.map_none, List.map_cons, List.map_nil, oneOf, if_true, if_false, Nat.reduceAdd, Nat.reduceMul, Option.isNone_some, Option.isNone_none, List.getElem?_toArray, List.getElem?_cons_zero, List.getElem?_cons_succ, reduceCtorEq, e12, e10, e11, e8, e5, e6, show ((D.ops.length : Int) ≤ (F.ops.length : Int)) from by omega, decide_true]
      refine call0 (fork_spec 6 (hd13.grow hg14)) ?_
      rintro _ w17 ⟨q2, G17, rfl, hq17, hf17, hx17⟩
      simp (maxSteps := 1000000) (disch := omega) only [↓sy1, sy2, sy3, readOK, implies_true, forall_const, Nat.reduceEqDiff, ↓reduceIte, Option.map_some, Option.map_none, List.map_cons, List.map_nil, oneOf, if_true, if_false, Nat.reduceAdd, Nat.reduceMul, Option.isNone_some, Option.isNone_none, List.getElem?_toArray, List.getElem?_cons_zero, List.getElem?_cons_succ, reduceCtorEq, e12, e10, e11, e8, e5, e6]
      refine call0 (same_spec ((hd13.grow hg14).ext hx17 id) hf17) ?_
      rintro _ w18 ⟨rfl, hg18⟩
      simp (maxSteps := 1000000) (disch := omega) only [↓sy1, sy2, sy3, readOK, implies_true, forall_const, Nat.reduceEqDiff, ↓reduceIte, Option.map_some, Option.map_none, List.map_cons, List.map_nil, oneOf, if_true, if_false, Nat.reduceAdd, Nat.reduceMul, Option.isNone_some, Option.isNone_none, List.getElem?_toArray, List.getElem?_cons_zero, List.getElem?_cons_succ, reduceCtorEq, decide_true]
      exact R_out ((((hx013.toGrow (by simp)).trans hg14).trans hx17.growG).trans hg18)
end Go.Proofs.Ytaeejceljgjdkaa
