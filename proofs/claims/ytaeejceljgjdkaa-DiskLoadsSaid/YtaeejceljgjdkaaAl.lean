/- DiskAlone: the walk. -/
import Derived.Test.YtaeejceljgjdkaaPl
namespace Go.Proofs.Ytaeejceljgjdkaa
open Go
set_option linter.unusedSimpArgs false
open Go.RowKit (intOf)
theorem crashed_other (q : Nat → List (List UInt8)) (i : Nat) : ∀ (ns ks : List Nat) (s : List (List UInt8)), (∀ j (h : j < ns.length) (h' : j < ks.length), ns[j] = i → ks[j] = 0) → (crashed s q ns ks)[i]? = s[i]?
  | [], _, s, _ => by simp [crashed]
  | a :: ns, [], s, _ => by simp [crashed]
  | a :: ns, b :: ks, s, h => by
    rw [crashed, crashed_other q i ns ks _ (fun j h1 h2 he => h (j + 1) (Nat.succ_lt_succ h1) (Nat.succ_lt_succ h2) he)]
    have h0 : a = i → b = 0 := h 0 (by simp) (by simp)
    split
    · rfl
    · rename_i hb
      rw [List.getElem?_set_ne (fun he => hb (h0 he))]
theorem Dsk.crash_image (D : Dsk) (ks : List Nat) : (D.crash ks).image = crashed D.safe D.wait D.waiting ks := by
  simp [Dsk.image, Dsk.crash, Dsk.safe_new, Dsk.wait_new, flushed_none]
theorem Dsk.crash_length (D : Dsk) (ks : List Nat) : (D.crash ks).image.length = D.first.length := by
  rw [D.crash_image, crashed_length, D.safe_length]
theorem Dsk.writes_length (D : Dsk) : D.writes.length = D.waiting.length := by simp [Dsk.writes]
theorem Dsk.writes_get (D : Dsk) {i : Nat} (h : i < D.writes.length) (h' : i < D.waiting.length) : D.writes[i] = (D.wait D.waiting[i]).length := by simp [Dsk.writes]
theorem tmod_nat (a b : Nat) : (a : Int).tmod (b : Int) = ((a % b : Nat) : Int) := rfl
theorem ints_set (l : List Int) (i : Nat) (v : Int) : (ints l).set i (.int .i64 v) = ints (l.set i v) := by simp [ints, List.map_set]
theorem ints_replicate (n : Nat) (v : Int) : List.replicate n (Value.int .i64 v) = ints (List.replicate n v) := by simp [ints]
theorem diskAlone_walk {w : World} {lv : Value} {l : List Deed} {k m : Nat} (hk : k < 256) (hm : m < 256) (hv : HasD w lv l) :
    Calls Try.prog 3 #[lv, .int .u8 k, .int .u8 m] w (Ret fun v w' => v = .bool true ∧ Grow w w') := by
  apply enter3
  apply R_in
  simp (maxSteps := 1000000) (disch := omega) only [F3, ↓sy1, sy2, sy3, readOK, implies_true, forall_const, Nat.reduceEqDiff, ↓reduceIte, Option.map_some, Option.map_none, List.map_cons, List.map_nil, oneOf, if_true, if_false, Nat.reduceAdd, Nat.reduceMul, Option.isNone_some, Option.isNone_none, List.getElem?_toArray, List.getElem?_cons_zero, List.getElem?_cons_succ, reduceCtorEq]
  refine call0 (play_spec (n := 5) hv (by omega) (by omega)) ?_
  rintro _ w1 ⟨p, r, G1, rfl, hd1, _, hx1⟩
  have hg1 : Grow w w1 := hx1.toGrow (by simp)
  generalize hDD : played (Dsk.zero 5) (l.take 40) = D at hd1
  simp (maxSteps := 1000000) (disch := omega) only [↓sy1, sy2, sy3, readOK, implies_true, forall_const, Nat.reduceEqDiff, ↓reduceIte, Option.map_some, Option.map_none, List.map_cons, List.map_nil, oneOf, if_true, if_false, Nat.reduceAdd, Nat.reduceMul, Option.isNone_some, Option.isNone_none, List.getElem?_toArray, List.getElem?_cons_zero, List.getElem?_cons_succ, reduceCtorEq]
  refine call0 (live_spec w1) ?_
  rintro _ w2 ⟨rfl, hg2⟩
  have hd2 := hd1.grow hg2
  simp (maxSteps := 1000000) (disch := omega) only [↓sy1, sy2, sy3, readOK, implies_true, forall_const, Nat.reduceEqDiff, ↓reduceIte, Option.map_some, Option.map_none, List.map_cons, List.map_nil, oneOf, if_true, if_false, Nat.reduceAdd, Nat.reduceMul, Option.isNone_some, Option.isNone_none, List.getElem?_toArray, List.getElem?_cons_zero, List.getElem?_cons_succ, reduceCtorEq]
  refine call0 (waiting_spec hd2) ?_
  rintro _ w3 ⟨av, bv, rfl, ha, hb, _, hg3⟩
  have hd3 := hd2.grow hg3
  have hok := hd3.ok
  have hwl := D.waiting_length
  have hmost := hok.most
  have hlen : ∀ w', lenF w' 0 av = some (.int .i64 D.waiting.length) := fun w' => by rw [(Has.own ha).lenI]; simp
  have hwr := D.writes_length
  generalize hnn : D.waiting.length = n at hwl hlen hwr
  by_cases h0 : n = 0
  · subst h0
    simp (maxSteps := 1000000) (disch := omega) only [↓sy1, sy2, sy3, readOK, implies_true, forall_const, Nat.reduceEqDiff, ↓reduceIte, Option.map_some, Option.map_none, List.map_cons, List.map_nil, oneOf, if_true, if_false, Nat.reduceAdd, Nat.reduceMul, Option.isNone_some, Option.isNone_none, List.getElem?_toArray, List.getElem?_cons_zero, List.getElem?_cons_succ, reduceCtorEq, hlen, Int.natCast_zero]
    exact R_out ((hg1.trans hg2).trans hg3)
  have hat : k % n < n := Nat.mod_lt _ (by omega)
  have hnk : (k : Int).tmod (n : Int) = ((k % n : Nat) : Int) := rfl
  simp (maxSteps := 1000000) (disch := omega) only [↓sy1, sy2, sy3, readOK, implies_true, forall_const, Nat.reduceEqDiff, ↓reduceIte, Option.map_some, Option.map_none, List.map_cons, List.map_nil, oneOf, if_true, if_false, Nat.reduceAdd, Nat.reduceMul, Option.isNone_some, Option.isNone_none, List.getElem?_toArray, List.getElem?_cons_zero, List.getElem?_cons_succ, reduceCtorEq, hlen, hnk, show ¬ ((n : Int) = 0) from by omega, decide_false]
  generalize hatt : k % n = at_ at hat
  refine mk_rule elemI (kx := .i64) (ky := .i64) (a := n) (c := n) (by simp only [upd_at, Nat.reduceEqDiff, reduceIte, ev_tmp, ev_const, List.map_cons, List.map_nil]) (by simp only [upd_at, Nat.reduceEqDiff, reduceIte, ev_tmp, ev_const, List.map_cons, List.map_nil]) (by omega) (by omega) (by omega) (by omega) rfl ?_
  have hg4 : Grow w3 (w3.alloc (.cells (Array.replicate (n : Int).toNat (.int .i64 0)) 3)) := (Keep.refl _ _).alloc _
  have hr4 := own_made w3 w3.heap.size (Nat.le_refl _) 3 (n : Int).toNat (by simp; omega) (.int .i64 0)
  generalize w3.alloc (.cells (Array.replicate (n : Int).toNat (.int .i64 0)) 3) = w4 at hg4 hr4 ⊢
  simp only [Int.toNat_natCast, ints_replicate] at hr4 ⊢
  generalize (Value.slice (some ⟨w3.heap.size, 0, none⟩) n n) = zv at hr4 ⊢
  simp (maxSteps := 1000000) (disch := omega) only [↓sy1, sy2, sy3, readOK, implies_true, forall_const, Nat.reduceEqDiff, ↓reduceIte, Option.map_some, Option.map_none, List.map_cons, List.map_nil, oneOf, if_true, if_false, Nat.reduceAdd, Nat.reduceMul, Option.isNone_some, Option.isNone_none, List.getElem?_toArray, List.getElem?_cons_zero, List.getElem?_cons_succ, reduceCtorEq, hlen]
  refine mk_rule elemI (kx := .i64) (ky := .i64) (a := n) (c := n) (by simp only [upd_at, Nat.reduceEqDiff, reduceIte, ev_tmp, ev_const, List.map_cons, List.map_nil]) (by simp only [upd_at, Nat.reduceEqDiff, reduceIte, ev_tmp, ev_const, List.map_cons, List.map_nil]) (by omega) (by omega) (by omega) (by omega) rfl ?_
  have hg5 : Grow w4 (w4.alloc (.cells (Array.replicate (n : Int).toNat (.int .i64 0)) 3)) := (Keep.refl _ _).alloc _
  have hr5 := own_made w4 w4.heap.size (Nat.le_refl _) 3 (n : Int).toNat (by simp; omega) (.int .i64 0)
  generalize w4.alloc (.cells (Array.replicate (n : Int).toNat (.int .i64 0)) 3) = w5 at hg5 hr5 ⊢
  simp only [Int.toNat_natCast, ints_replicate] at hr5 ⊢
  generalize (Value.slice (some ⟨w4.heap.size, 0, none⟩) n n) = yv at hr5 ⊢
  obtain ⟨ab, hab, habc, _⟩ := ((Has.own hb).grow (hg4.trans hg5)).getI (l := zs D.writes) (i := at_) (by simp; omega)
  have hwat : (zs D.writes)[at_]'(by simp; omega) = (((D.wait (D.waiting[at_]'(by omega))).length : Nat) : Int) := by simp [D.writes_get (i := at_) (by omega) (by omega)]
  rw [hwat] at habc
  have hcap := D.wait_length (D.waiting[at_]'(by omega))
  have hopsl := hd3.2.1
  generalize hnat : D.waiting[at_]'(by omega) = nat at habc hwat hcap
  generalize hww : (D.wait nat).length = ww at habc hwat hcap
  obtain ⟨ay, w6, hay, hsty, hr6, hk6, _⟩ := own_store hr5 hat (u := .int .i64 ((m % (ww + 1) : Nat) : Int)) rfl
  rw [ints_set] at hr6
  have hmod : (m : Int).tmod ((ww : Int) + 1) = ((m % (ww + 1) : Nat) : Int) := rfl
  simp (maxSteps := 1000000) (disch := omega) only [↓sy1, sy2, sy3, readOK, implies_true, forall_const, Nat.reduceEqDiff, ↓reduceIte, Option.map_some, Option.map_none, List.map_cons, List.map_nil, oneOf, if_true, if_false, Nat.reduceAdd, Nat.reduceMul, Option.isNone_some, Option.isNone_none, List.getElem?_toArray, List.getElem?_cons_zero, List.getElem?_cons_succ, reduceCtorEq, hab, habc, hmod, hay, hsty]
  have hmlt : m % (ww + 1) < ww + 1 := Nat.mod_lt _ (by omega)
  generalize hmm : m % (ww + 1) = mm at hr6 hmlt
  have hg36 : Grow w3 w6 := (hg4.trans hg5).then hk6 (fun bb hbb h => by
    obtain ⟨hl1, _⟩ := World.ownsRow.lt hr5 bb h
    have := hg4.size; omega)
  have hg46 : Grow w4 w6 := hg5.then hk6 (fun bb hbb h => by
    obtain ⟨hl1, _⟩ := World.ownsRow.lt hr5 bb h; omega)
  have hd6 := hd3.grow hg36
  have hr46 := (Has.own hr4).grow hg46
  have hmay1 : D.may (List.replicate n 0) := by
    refine ⟨by simp [hnn], fun i h h' => ?_⟩
    simp
  have hmay2 : D.may ((List.replicate n 0).set at_ (mm : Int)) := by
    refine ⟨by simp [hnn], fun i h h' => ?_⟩
    rw [List.getElem_set]
    split
    · rename_i he; subst he
      rw [hnat, hww]; omega
    · simp
  refine call0 (crash_spec 4 hd6 hr46 (by simp; omega)) ?_
  rintro v w7 ⟨hgood, _⟩
  obtain ⟨p7, G7, rfl, hp7, hd7, hx7⟩ := hgood hmay1
  have hd67 := hd6.ext hx7 id
  have hr67 := (Has.own hr6).grow hx7.growG
  simp (maxSteps := 1000000) (disch := omega) only [↓sy1, sy2, sy3, readOK, implies_true, forall_const, Nat.reduceEqDiff, ↓reduceIte, Option.map_some, Option.map_none, List.map_cons, List.map_nil, oneOf, if_true, if_false, Nat.reduceAdd, Nat.reduceMul, Option.isNone_some, Option.isNone_none, List.getElem?_toArray, List.getElem?_cons_zero, List.getElem?_cons_succ, reduceCtorEq]
  refine call0 (crash_spec 5 hd67 hr67 (by simp; omega)) ?_
  rintro v w8 ⟨hgood, _⟩
  obtain ⟨p8, G8, rfl, hp8, hd8, hx8⟩ := hgood hmay2
  have hd78 := hd7.ext hx8 id
  simp (maxSteps := 1000000) (disch := omega) only [↓sy1, sy2, sy3, readOK, implies_true, forall_const, Nat.reduceEqDiff, ↓reduceIte, Option.map_some, Option.map_none, List.map_cons, List.map_nil, oneOf, if_true, if_false, Nat.reduceAdd, Nat.reduceMul, Option.isNone_some, Option.isNone_none, List.getElem?_toArray, List.getElem?_cons_zero, List.getElem?_cons_succ, reduceCtorEq]
  refine call0 (image_spec hd78) ?_
  rintro pv w9 ⟨hpv, hg9⟩
  simp (maxSteps := 1000000) (disch := omega) only [↓sy1, sy2, sy3, readOK, implies_true, forall_const, Nat.reduceEqDiff, ↓reduceIte, Option.map_some, Option.map_none, List.map_cons, List.map_nil, oneOf, if_true, if_false, Nat.reduceAdd, Nat.reduceMul, Option.isNone_some, Option.isNone_none, List.getElem?_toArray, List.getElem?_cons_zero, List.getElem?_cons_succ, reduceCtorEq]
  refine call0 (image_spec (hd8.grow hg9)) ?_
  rintro qv w10 ⟨hqv, hg10⟩
  simp (maxSteps := 1000000) (disch := omega) only [↓sy1, sy2, sy3, readOK, implies_true, forall_const, Nat.reduceEqDiff, ↓reduceIte, Option.map_some, Option.map_none, List.map_cons, List.map_nil, oneOf, if_true, if_false, Nat.reduceAdd, Nat.reduceMul, Option.isNone_some, Option.isNone_none, List.getElem?_toArray, List.getElem?_cons_zero, List.getElem?_cons_succ, reduceCtorEq]
  have hP := (hpv.has).grow hg10
  have hQ := hqv.has
  have hPl := D.crash_length ((List.replicate n (0 : Int)).map Int.toNat)
  have hQl := D.crash_length (((List.replicate n (0 : Int)).set at_ (mm : Int)).map Int.toNat)
  have hP512 := hd7.ok.image
  have hsame : ∀ i, i ≠ nat → (D.crash ((List.replicate n (0 : Int)).map Int.toNat)).image[i]? = (D.crash (((List.replicate n (0 : Int)).set at_ (mm : Int)).map Int.toNat)).image[i]? := by
    intro i hi
    rw [D.crash_image, D.crash_image, crashed_other, crashed_other]
    · intro j h1 h2 he
      simp only [List.getElem_map, List.getElem_set]
      split
      · rename_i hj; subst hj; exact absurd (he.symm.trans hnat) hi
      · simp
    · intro j h1 h2 he; simp
  generalize (D.crash ((List.replicate n (0 : Int)).map Int.toNat)).image = P at hP hPl hsame hP512
  generalize (D.crash (((List.replicate n (0 : Int)).set at_ (mm : Int)).map Int.toNat)).image = Q at hQ hQl hsame
  have hgall : Grow w w10 := ((((((hg1.trans hg2).trans hg3).trans hg36).trans hx7.growG).trans hx8.growG).trans hg9).trans hg10
  have ha10 : HasI w10 av (zs D.waiting) := (Has.own ha).grow ((((hg36).trans hx7.growG).trans hx8.growG).trans (hg9.trans hg10))
  have hPlen := hPl
  refine loop_rule (fun e w' => ∃ i : Nat, i ≤ P.length ∧ e 21 = .int .i64 i ∧ e 19 = pv ∧ e 20 = qv ∧ e 10 = av ∧ e 12 = .int .i64 at_ ∧ Grow w10 w') (fun e _ => P.length - (intOf (e 21)).toNat)
    ⟨0, by omega, by simp [upd, updO, ev], by simp [upd, updO, ev], by simp [upd, updO, ev], by simp [upd, updO, ev], by simp [upd, updO, ev], Keep.refl _ _⟩ ?_
  rintro e w11 ⟨i, hi, e21, e19, e20, e10, e12, hg11⟩
  have hP11 := hP.grow hg11
  have hQ11 := hQ.grow hg11
  by_cases hlt : i < P.length
  · simp (maxSteps := 1000000) (disch := omega) only [F3_L0, ↓sy1, sy2, sy3, readOK, implies_true, forall_const, Nat.reduceEqDiff, ↓reduceIte, Option.map_some, Option.map_none, List.map_cons, List.map_nil, oneOf, if_true, if_false, Nat.reduceAdd, Nat.reduceMul, Option.isNone_some, Option.isNone_none, List.getElem?_toArray, List.getElem?_cons_zero, List.getElem?_cons_succ, reduceCtorEq, e21, e19, e20, e10, e12, hP11.len, Int.ofNat_lt, hlt, decide_true]
    refine draw3_0 (fun _ => False) ?_
    have hgd : Grow w11 w11.drew := (Keep.refl _ _).drew
    have hP12 := hP11.grow hgd
    have hQ12 := hQ11.grow hgd
    have ha12 : HasI w11.drew av (zs D.waiting) := ha10.grow (hg11.trans hgd)
    have hg12 := hg11.trans hgd
    generalize w11.drew = w12 at hP12 hQ12 ha12 hg12 ⊢
    obtain ⟨aa, haa, haac, _⟩ := ha12.getI (l := zs D.waiting) (i := at_) (by simp; omega)
    have hnat' : (zs D.waiting)[at_]'(by simp; omega) = (nat : Int) := by simp [hnat]
    rw [hnat'] at haac
    by_cases hin : i = nat
    · have hin' : ((i : Int) = (nat : Int)) := by omega
      simp (maxSteps := 1000000) (disch := omega) only [PL3_0, ↓sy1, sy2, sy3, readOK, implies_true, forall_const, Nat.reduceEqDiff, ↓reduceIte, Option.map_some, Option.map_none, List.map_cons, List.map_nil, oneOf, if_true, if_false, Nat.reduceAdd, Nat.reduceMul, Option.isNone_some, Option.isNone_none, List.getElem?_toArray, List.getElem?_cons_zero, List.getElem?_cons_succ, reduceCtorEq, e21, e19, e20, e10, e12, haa, haac, hin', decide_true, false_implies]
      refine R_out ⟨⟨i + 1, by omega, by first | rfl | (rw [← hin]; rfl) | (simp; omega), hg12⟩, ?_⟩
      simp only [intOf]; omega
    · have hin' : ¬ ((i : Int) = (nat : Int)) := by omega
      obtain ⟨pa, pu, hpa, hpac, hpu⟩ := hP12.get hlt
      obtain ⟨qa, qu, hqa, hqac, hqu⟩ := hQ12.get (i := i) (by omega)
      have heq : P[i] = Q[i]'(by omega) := by
        have := hsame i hin
        rw [List.getElem?_eq_getElem hlt, List.getElem?_eq_getElem (show i < Q.length by omega)] at this
        exact Option.some.inj this
      have h512 := hP512 _ (List.getElem_mem hlt)
      simp (maxSteps := 1000000) (disch := omega) only [PL3_0, ↓sy1, sy2, sy3, readOK, implies_true, forall_const, Nat.reduceEqDiff, ↓reduceIte, Option.map_some, Option.map_none, List.map_cons, List.map_nil, oneOf, if_true, if_false, Nat.reduceAdd, Nat.reduceMul, Option.isNone_some, Option.isNone_none, List.getElem?_toArray, List.getElem?_cons_zero, List.getElem?_cons_succ, reduceCtorEq, e21, e19, e20, e10, e12, haa, haac, hin', decide_false, hpa, hpac, hqa, hqac]
      refine call0 (sameBytes_spec pu qu _ _ w12 hpu hqu (by omega)) ?_
      rintro _ w13 ⟨rfl, hg13⟩
      simp (maxSteps := 1000000) (disch := omega) only [↓sy1, sy2, sy3, readOK, implies_true, forall_const, Nat.reduceEqDiff, ↓reduceIte, Option.map_some, Option.map_none, List.map_cons, List.map_nil, oneOf, if_true, if_false, Nat.reduceAdd, Nat.reduceMul, Option.isNone_some, Option.isNone_none, List.getElem?_toArray, List.getElem?_cons_zero, List.getElem?_cons_succ, reduceCtorEq, e21, e19, e20, e10, e12, heq, decide_true]
      refine R_out ⟨⟨i + 1, by omega, rfl, hg12.trans hg13⟩, ?_⟩
      simp only [intOf]; omega
  · simp (maxSteps := 1000000) (disch := omega) only [F3_L0, ↓sy1, sy2, sy3, readOK, implies_true, forall_const, Nat.reduceEqDiff, ↓reduceIte, Option.map_some, Option.map_none, List.map_cons, List.map_nil, oneOf, if_true, if_false, Nat.reduceAdd, Nat.reduceMul, Option.isNone_some, Option.isNone_none, List.getElem?_toArray, List.getElem?_cons_zero, List.getElem?_cons_succ, reduceCtorEq, e21, e19, e20, e10, e12, hP11.len, hQ11.len, show Q.length = P.length from by omega, Int.ofNat_lt, hlt, decide_false, decide_true]
    exact R_out (hgall.trans hg11)
end Go.Proofs.Ytaeejceljgjdkaa
