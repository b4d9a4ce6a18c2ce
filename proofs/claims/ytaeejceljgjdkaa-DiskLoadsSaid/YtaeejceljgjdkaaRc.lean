/- The reference's disk: Cut, Crash. -/
import Derived.Test.YtaeejceljgjdkaaSm
namespace Go.Proofs.Ytaeejceljgjdkaa
open Go
set_option linter.unusedSimpArgs false
open Go.RowKit (intOf)
theorem fill_of2 {e : Env} {a b : Value} {o s : Nat} {x : Operand} : fillV e #[a, b] [(o, (s, x))] = fillF #[a, b] [(o, s, ev e x)] := fill_all _ _
theorem fillF_1of2 {a b x : Value} (hx : isCell x = true) : fillF #[a, b] [(0, 1, x)] = some #[x, b] := by
  rw [fillF_cell hx (by simp), fillF_nil]; simp
/-- A slice up to a place. -/
theorem Has.slcTo {s : Nat} {w : World} {v : Value} {xs : List Value} (h : Has s w v xs) (hs : 0 < s) {m : Nat} (hm : m * s ≤ xs.length) :
    ∃ v', slcF s v none (some (.int .i64 m)) none = some v' ∧ Has s w v' (xs.take (m * s)) := by
  rcases h with ⟨b, o, n, c, rfl, h1, h2, h3⟩ | ⟨rfl, rfl⟩
  · have hmn : m ≤ n := Nat.le_of_mul_le_mul_right (h1 ▸ hm) hs
    refine ⟨.slice (some ⟨b, o, none⟩) m c, ?_, .inl ⟨b, o, m, c, rfl, by rw [List.length_take]; omega, by omega, fun j u hj => ?_⟩⟩
    · simp only [slcF, slcV, bndV]
      rw [if_pos ⟨by omega, by omega⟩]
      simp [add_lit]
    · rw [List.getElem?_take] at hj
      split at hj
      · exact h3 j u hj
      · cases hj
  · have hm0 : m = 0 := by
      rcases Nat.eq_zero_or_pos m with h | h
      · exact h
      · have := Nat.mul_pos h hs; simp at hm; omega
    subst hm0
    exact ⟨.slice none 0 0, by simp [slcF, slcV, bndV], by simpa using Has.nil s w⟩
theorem rcut_nil {w : World} {n : Int} : Calls Try.prog 35 #[.pointer none, .int .i64 n] w (Ret fun v w' => v = .tuple #[.pointer none, .int .i64 1] ∧ w' = w) := by
  apply enter35
  apply R_in
  simp (disch := omega) only [F35, ↓sy1, sy2, sy3, readOK, implies_true, forall_const, Nat.reduceEqDiff, ↓reduceIte, Option.map_some, Option.map_none, List.map_cons, List.map_nil, oneOf, if_true, if_false, Nat.reduceAdd, Nat.reduceMul, Option.isNone_some, Option.isNone_none, List.getElem?_toArray, List.getElem?_cons_zero, List.getElem?_cons_succ, reduceCtorEq]
  exact R_out trivial
theorem rcrash_nil {w : World} {b : Value} : Calls Try.prog 36 #[.pointer none, b] w (Ret fun v w' => v = .tuple #[.pointer none, .int .i64 1] ∧ w' = w) := by
  apply enter36
  apply R_in
  simp (disch := omega) only [F36, ↓sy1, sy2, sy3, readOK, implies_true, forall_const, Nat.reduceEqDiff, ↓reduceIte, Option.map_some, Option.map_none, List.map_cons, List.map_nil, oneOf, if_true, if_false, Nat.reduceAdd, Nat.reduceMul, Option.isNone_some, Option.isNone_none, List.getElem?_toArray, List.getElem?_cons_zero, List.getElem?_cons_succ, reduceCtorEq]
  exact R_out trivial
theorem rcut_bad {G : Gh} {κ : Nat} {w : World} {p : Nat} {n : Int} {D : Dsk} (h : RefAt G κ w p D) (hn : n < 0 ∨ D.ops.length < n) :
    Calls Try.prog 35 #[.pointer (some ⟨p, 0, none⟩), .int .i64 n] w (Ret fun v w' => v = .tuple #[.pointer none, .int .i64 2] ∧ w' = w) := by
  obtain ⟨vf, vl, xs, h0, h1, _, _, _, hl0, hl1⟩ := h.parts
  apply enter35
  apply R_in
  by_cases h2 : n < 0
  · simp (disch := omega) only [F35, ↓sy1, sy2, sy3, readOK, implies_true, forall_const, Nat.reduceEqDiff, ↓reduceIte, Option.map_some, Option.map_none, List.map_cons, List.map_nil, oneOf, if_true, if_false, Nat.reduceAdd, Nat.reduceMul, Option.isNone_some, Option.isNone_none, List.getElem?_toArray, List.getElem?_cons_zero, List.getElem?_cons_succ, reduceCtorEq, h2, decide_true]
    exact R_out trivial
  · simp (disch := omega) only [F35, ↓sy1, sy2, sy3, readOK, implies_true, forall_const, Nat.reduceEqDiff, ↓reduceIte, Option.map_some, Option.map_none, List.map_cons, List.map_nil, oneOf, if_true, if_false, Nat.reduceAdd, Nat.reduceMul, Option.isNone_some, Option.isNone_none, List.getElem?_toArray, List.getElem?_cons_zero, List.getElem?_cons_succ, reduceCtorEq, h2, h1, hl1, show ((D.ops.length : Int) < n) from by omega, decide_true, decide_false]
    exact R_out trivial
theorem rcut_spec {G : Gh} {κ : Nat} {w : World} {p k : Nat} {D : Dsk} (κ' : Nat) (h : RefAt G κ w p D) (hk : k ≤ D.ops.length) :
    Calls Try.prog 35 #[.pointer (some ⟨p, 0, none⟩), .int .i64 k] w (Ret fun v w' => ∃ q G', v = .tuple #[.pointer (some ⟨q, 0, none⟩), .int .i64 0] ∧ w.heap.size ≤ q ∧ RefAt G' κ' w' q (D.cut k) ∧ Ext0 G w G' w') := by
  have hok := h.ok
  have hm := h.2.1
  have hpl := h.lt
  obtain ⟨vf, vl, xs, h0, h1, hrf, hx, hr, hl0, hl1⟩ := h.parts
  have hlen := hr.length
  have hfc := hrf.has
  have hvf : isCell vf = true := by obtain ⟨vs, h, _⟩ := hfc; exact h.isCell
  apply enter35
  apply R_in
  have hg0 : Grow w (w.alloc (.cells #[vf, .slice none 0 0] 88)) := (Keep.refl _ _).alloc _
  have hb0 := heap_alloc_new w (.cells #[vf, .slice none 0 0] 88)
  have hs0 : (w.alloc (.cells #[vf, .slice none 0 0] 88)).heap.size = w.heap.size + 1 := by simp
  generalize hw0 : w.alloc (.cells #[vf, .slice none 0 0] 88) = w0 at hg0 hb0 hs0
  simp (disch := omega) only [F35, ↓sy1, sy2, sy3, readOK, implies_true, forall_const, Nat.reduceEqDiff, ↓reduceIte, Option.map_some, Option.map_none, List.map_cons, List.map_nil, oneOf, if_true, if_false, Nat.reduceAdd, Nat.reduceMul, Option.isNone_some, Option.isNone_none, List.getElem?_toArray, List.getElem?_cons_zero, List.getElem?_cons_succ, reduceCtorEq, h0, h1, hl1, show ¬ ((k : Int) < 0) from by omega, show ¬ ((D.ops.length : Int) < k) from by omega, decide_false, fill_of2, fillF_1of2 (b := .slice none 0 0) hvf, Option.map_some, agg2_cells (y := .slice none 0 0) hvf rfl, hw0]
  generalize hq : w.heap.size = q at hb0 hs0 ⊢
  refine draw35_0 (fun _ => False) ?_
  have hgd : Grow w0 w0.drew := (Keep.refl _ _).drew
  have hb1 := hgd.gheap hb0
  have hg1 := hg0.trans hgd
  have hs1 : q + 1 ≤ w0.drew.heap.size := by have := hgd.size; omega
  generalize w0.drew = w1 at hgd hb1 hg1 hs1 ⊢
  have hcl : w1.cell? ⟨q, 1, none⟩ = some (.slice none 0 0) := by rw [cell_block hb1]; rfl
  have h11 := Keep.gcell hg1 h1
  obtain ⟨v', hslc, hv'⟩ := hx.slcTo (by omega) (m := k) (by omega)
  simp (disch := omega) only [PL35_0, ↓sy1, sy2, sy3, readOK, implies_true, forall_const, Nat.reduceEqDiff, ↓reduceIte, Option.map_some, Option.map_none, List.map_cons, List.map_nil, oneOf, if_true, if_false, Nat.reduceAdd, Nat.reduceMul, Option.isNone_some, Option.isNone_none, List.getElem?_toArray, List.getElem?_cons_zero, List.getElem?_cons_succ, reduceCtorEq, hcl, h11, hslc]
  refine app_own elemP (by simp only [upd_at, Nat.reduceEqDiff, reduceIte, ev_tmp, ev_const, List.map_cons, List.map_nil]) (by simp only [upd_at, Nat.reduceEqDiff, reduceIte, ev_tmp, ev_const, List.map_cons, List.map_nil]) (World.ownsRow_nil w1 (q + 1) _ 3) (hv'.grow hg1) (m := k) (by rw [List.length_take]; omega) (fun u hu => hr.cell u (List.mem_of_mem_take hu)) (by omega) (by omega) hs1 ?_
  intro v2 w2 ho2 hg2
  rw [Nat.zero_add, List.nil_append] at ho2
  have hg2' : Grow w1 w2 := (Keep.grown hg2).mono (fun b _ h => by simp [Value.ownBlock] at h)
  have hb2 := hg2'.gheap hb1
  obtain ⟨w3, hst, hb3, hk3⟩ := cell_store hb2 (i := 1) (by simp) (u := v2) (Has.own ho2).isCell
  simp (disch := omega) only [↓sy1, sy2, sy3, readOK, implies_true, forall_const, Nat.reduceEqDiff, ↓reduceIte, Option.map_some, Option.map_none, List.map_cons, List.map_nil, oneOf, if_true, if_false, Nat.reduceAdd, Nat.reduceMul, Option.isNone_some, Option.isNone_none, List.getElem?_toArray, List.getElem?_cons_zero, List.getElem?_cons_succ, reduceCtorEq, hst]
  have hgw : Grow w w3 := (hg1.trans hg2').then hk3 (fun b hb h => by omega)
  let G' : Gh := ⟨fun b => if b < q then G.own b else κ', fun b => if b < q then G.fix b else if b = q then 0 else maxLen * 3⟩
  have hx' : Ext0 G w G' w3 := .ofGrow hgw (fun b hb => by simp [G']; omega) (fun b hb => by simp [G']; omega)
  have ho3 := own_keepk ho2 hk3 (fun b hb hbp => by have := (World.ownsRow.lt ho2 b hb).1; omega)
  refine R_out ⟨q, G', rfl, by omega, ⟨hok.cut k, by simp [Dsk.cut]; omega, vf, v2, xs.take (k * 3), by simpa using hb3, by simp [G'], by simp [G'], hrf.ext hx', ?_, (hr.take k).ext hx'⟩, hx'⟩
  exact own_fixk ho3 (fun b hb => by simp only [G']; rw [if_neg (by omega), if_neg (by omega)]; exact Nat.le_refl _)
theorem rcrash_spec {G : Gh} {κ : Nat} {w : World} {p : Nat} {D : Dsk} {kv : Value} {ks : List Int} (κ' : Nat) (h : RefAt G κ w p D) (hk : HasI w kv ks) (hkl : ks.length ≤ 9223372036854775807) (hkb : ∀ z ∈ ks, -9223372036854775808 ≤ z ∧ z ≤ 9223372036854775807) :
    Calls Try.prog 36 #[.pointer (some ⟨p, 0, none⟩), kv] w (Ret fun v w' => (D.may ks → ∃ p' G', v = .tuple #[.pointer (some ⟨p', 0, none⟩), .int .i64 0] ∧ w.heap.size ≤ p' ∧ RefAt G' κ' w' p' (D.crash (ks.map Int.toNat)) ∧ Ext0 G w G' w') ∧
      (¬ D.may ks → v = .tuple #[.pointer none, .int .i64 2] ∧ Grow w w')) := by
  have hok := h.ok
  have hm := h.2.1
  have hwl := D.waiting_length
  have hmost := hok.most
  have hwr := D.writes_length
  apply enter36
  apply R_in
  simp (disch := omega) only [F36, ↓sy1, sy2, sy3, readOK, implies_true, forall_const, Nat.reduceEqDiff, ↓reduceIte, Option.map_some, Option.map_none, List.map_cons, List.map_nil, oneOf, if_true, if_false, Nat.reduceAdd, Nat.reduceMul, Option.isNone_some, Option.isNone_none, List.getElem?_toArray, List.getElem?_cons_zero, List.getElem?_cons_succ, reduceCtorEq]
  refine call0 (rwaiting_spec h) ?_
  rintro _ w1 ⟨a, b, rfl, ha, hb, hg1⟩
  have hla : ∀ w2, lenF w2 0 a = some (.int .i64 D.waiting.length) := fun w2 => by rw [ha.lenI]; simp
  simp (disch := omega) only [↓sy1, sy2, sy3, readOK, implies_true, forall_const, Nat.reduceEqDiff, ↓reduceIte, Option.map_some, Option.map_none, List.map_cons, List.map_nil, oneOf, if_true, if_false, Nat.reduceAdd, Nat.reduceMul, Option.isNone_some, Option.isNone_none, List.getElem?_toArray, List.getElem?_cons_zero, List.getElem?_cons_succ, reduceCtorEq, hk.lenI, hla]
  by_cases hlen : D.waiting.length < ks.length
  · simp (disch := omega) only [↓sy1, sy2, sy3, readOK, implies_true, forall_const, Nat.reduceEqDiff, ↓reduceIte, Option.map_some, Option.map_none, List.map_cons, List.map_nil, oneOf, if_true, if_false, Nat.reduceAdd, Nat.reduceMul, Option.isNone_some, Option.isNone_none, List.getElem?_toArray, List.getElem?_cons_zero, List.getElem?_cons_succ, reduceCtorEq, Int.ofNat_lt, hlen, decide_true]
    exact R_out ⟨fun hm => by have := hm.1; omega, fun _ => hg1⟩
  simp (disch := omega) only [↓sy1, sy2, sy3, readOK, implies_true, forall_const, Nat.reduceEqDiff, ↓reduceIte, Option.map_some, Option.map_none, List.map_cons, List.map_nil, oneOf, if_true, if_false, Nat.reduceAdd, Nat.reduceMul, Option.isNone_some, Option.isNone_none, List.getElem?_toArray, List.getElem?_cons_zero, List.getElem?_cons_succ, reduceCtorEq, Int.ofNat_lt, hlen, decide_false]
  refine loop_rule (fun e w' => ∃ i : Nat, i ≤ ks.length ∧ e 8 = .int .i64 i ∧ e 0 = .pointer (some ⟨p, 0, none⟩) ∧ e 1 = kv ∧ e 6 = a ∧ e 7 = b ∧ Grow w1 w' ∧
      ∀ j (h : j < ks.length) (h' : j < D.waiting.length), j < i → 0 ≤ ks[j] ∧ ks[j] ≤ ((D.wait D.waiting[j]).length : Int)) (fun e _ => ks.length - (intOf (e 8)).toNat)
    ⟨0, by omega, by simp [upd, updO, ev], by simp [upd, updO, ev], by simp [upd, updO, ev], by simp [upd, updO, ev], by simp [upd, updO, ev], Keep.refl _ _, fun j _ _ hj => by omega⟩ ?_
  rintro e w2 ⟨i, hi, e8, e0, e1, e6, e7, hg2, hgood⟩
  by_cases hlt : i < ks.length
  · have hlt' : i < D.waiting.length := by omega
    simp (disch := omega) only [F36_L0, ↓sy1, sy2, sy3, readOK, implies_true, forall_const, Nat.reduceEqDiff, ↓reduceIte, Option.map_some, Option.map_none, List.map_cons, List.map_nil, oneOf, if_true, if_false, Nat.reduceAdd, Nat.reduceMul, Option.isNone_some, Option.isNone_none, List.getElem?_toArray, List.getElem?_cons_zero, List.getElem?_cons_succ, reduceCtorEq, e8, e0, e1, e6, e7, hk.lenI, Int.ofNat_lt, hlt, decide_true]
    refine draw36_0 (fun _ => False) ?_
    have hgd : Grow w2 w2.drew := (Keep.refl _ _).drew
    have hg3 := hg2.trans hgd
    generalize w2.drew = w3 at hgd hg3 ⊢
    obtain ⟨ak, hak, hakc, _⟩ := (hk.grow (hg1.trans hg3)).getI hlt
    obtain ⟨aw, haw, hawc, _⟩ := (hb.grow hg3).getI (i := i) (by simp; omega)
    have hwv : (zs D.writes)[i]'(by simp; omega) = (((D.wait D.waiting[i]).length : Nat) : Int) := by simp [Dsk.writes]
    rw [hwv] at hawc
    generalize hkk : ks[i] = kk at hakc
    by_cases hneg : kk < 0
    · simp (disch := omega) only [PL36_0, ↓sy1, sy2, sy3, readOK, implies_true, forall_const, Nat.reduceEqDiff, ↓reduceIte, Option.map_some, Option.map_none, List.map_cons, List.map_nil, oneOf, if_true, if_false, Nat.reduceAdd, Nat.reduceMul, Option.isNone_some, Option.isNone_none, List.getElem?_toArray, List.getElem?_cons_zero, List.getElem?_cons_succ, reduceCtorEq, e8, e0, e1, e6, e7, hak, hakc, hneg, decide_true, false_implies]
      exact R_out ⟨fun hm => by have := (hm.2 i hlt hlt').1; omega, fun _ => hg1.trans hg3⟩
    by_cases hbig : (((D.wait D.waiting[i]).length : Nat) : Int) < kk
    · simp (disch := omega) only [PL36_0, ↓sy1, sy2, sy3, readOK, implies_true, forall_const, Nat.reduceEqDiff, ↓reduceIte, Option.map_some, Option.map_none, List.map_cons, List.map_nil, oneOf, if_true, if_false, Nat.reduceAdd, Nat.reduceMul, Option.isNone_some, Option.isNone_none, List.getElem?_toArray, List.getElem?_cons_zero, List.getElem?_cons_succ, reduceCtorEq, e8, e0, e1, e6, e7, hak, hakc, hneg, haw, hawc, hbig, decide_true, decide_false]
      exact R_out ⟨fun hm => by have := (hm.2 i hlt hlt').2; omega, fun _ => hg1.trans hg3⟩
    simp (disch := omega) only [PL36_0, ↓sy1, sy2, sy3, readOK, implies_true, forall_const, Nat.reduceEqDiff, ↓reduceIte, Option.map_some, Option.map_none, List.map_cons, List.map_nil, oneOf, if_true, if_false, Nat.reduceAdd, Nat.reduceMul, Option.isNone_some, Option.isNone_none, List.getElem?_toArray, List.getElem?_cons_zero, List.getElem?_cons_succ, reduceCtorEq, e8, e0, e1, e6, e7, hak, hakc, hneg, haw, hawc, hbig, decide_false]
    refine R_out ⟨⟨i + 1, by omega, rfl, hg3, fun j h h' hj => ?_⟩, ?_⟩
    · by_cases hji : j = i
      · subst hji; rw [hkk]; omega
      · exact hgood j h h' (by omega)
    · simp only [intOf]; omega
  have hie : i = ks.length := by omega
  subst hie
  have hmay : D.may ks := ⟨by omega, fun j h h' => hgood j h h' h⟩
  simp (disch := omega) only [F36_L0, ↓sy1, sy2, sy3, readOK, implies_true, forall_const, Nat.reduceEqDiff, ↓reduceIte, Option.map_some, Option.map_none, List.map_cons, List.map_nil, oneOf, if_true, if_false, Nat.reduceAdd, Nat.reduceMul, Option.isNone_some, Option.isNone_none, List.getElem?_toArray, List.getElem?_cons_zero, List.getElem?_cons_succ, reduceCtorEq, e8, e0, e1, e6, e7, hk.lenI, Int.ofNat_lt, hlt, decide_false]
  have hg02 := hg1.trans hg2
  refine call0 (rsafe_spec (h.grow hg02)) ?_
  rintro out w3 ⟨hout, hg3⟩
  simp (disch := omega) only [↓sy1, sy2, sy3, readOK, implies_true, forall_const, Nat.reduceEqDiff, ↓reduceIte, Option.map_some, Option.map_none, List.map_cons, List.map_nil, oneOf, if_true, if_false, Nat.reduceAdd, Nat.reduceMul, Option.isNone_some, Option.isNone_none, List.getElem?_toArray, List.getElem?_cons_zero, List.getElem?_cons_succ, reduceCtorEq, e8, e0, e1, e6, e7]
  refine loop_rule (fun e w' => ∃ i : Nat, i ≤ ks.length ∧ e 10 = .int .i64 i ∧ e 0 = .pointer (some ⟨p, 0, none⟩) ∧ e 1 = kv ∧ e 6 = a ∧ e 9 = out ∧ Grow w2 w' ∧
      FreshR w2.heap.size 37 5 w' out (crashed D.safe D.wait (D.waiting.take i) ((ks.map Int.toNat).take i))) (fun e _ => ks.length - (intOf (e 10)).toNat)
    ⟨0, by omega, by simp [upd, updO, ev], by simp [upd, updO, ev, e0], by simp [upd, updO, ev, e1], by simp [upd, updO, ev, e6], by simp [upd, updO, ev], hg3, by simpa [crashed] using hout⟩ ?_
  clear e8 e0 e1 e6 e7 hlt hi hgood
  rintro e w4 ⟨i, hi, e10, e0, e1, e6, e9, hg4, hf⟩
  have hg14 := hg2.trans hg4
  by_cases hlt : i < ks.length
  · have hlt' : i < D.waiting.length := by have := hmay.1; omega
    obtain ⟨ak, hak, hakc, _⟩ := (hk.grow (hg1.trans hg14)).getI hlt
    obtain ⟨hk0, hk1⟩ := hmay.2 i hlt hlt'
    have hstep : crashed D.safe D.wait (D.waiting.take (i + 1)) ((ks.map Int.toNat).take (i + 1)) = if ks[i].toNat = 0 then crashed D.safe D.wait (D.waiting.take i) ((ks.map Int.toNat).take i) else (crashed D.safe D.wait (D.waiting.take i) ((ks.map Int.toNat).take i)).set D.waiting[i] ((D.wait D.waiting[i])[ks[i].toNat - 1]?.getD []) := by
      rw [List.take_succ_eq_append_getElem hlt', List.take_succ_eq_append_getElem (by simpa using hlt)]
      rw [crashed_snoc _ _ _ _ _ _ (by simp; omega)]
      simp
    have hne : D.wait D.waiting[i] ≠ [] := (Dsk.mem_waiting hok).1 (List.getElem_mem hlt')
    have hin : D.waiting[i] < D.first.length := hok.waits hne
    have hwv : (zs D.waiting)[i]'(by simpa using hlt') = ((D.waiting[i] : Nat) : Int) := by simp
    generalize hnn : D.waiting[i] = n at hne hin hstep hk1 hwv
    generalize hkk : ks[i] = kk at hakc hk0 hk1 hstep
    by_cases hpos : 0 < kk
    · simp (disch := omega) only [F36_L1, ↓sy1, sy2, sy3, readOK, implies_true, forall_const, Nat.reduceEqDiff, ↓reduceIte, Option.map_some, Option.map_none, List.map_cons, List.map_nil, oneOf, if_true, if_false, Nat.reduceAdd, Nat.reduceMul, Option.isNone_some, Option.isNone_none, List.getElem?_toArray, List.getElem?_cons_zero, List.getElem?_cons_succ, reduceCtorEq, e10, e0, e1, e6, e9, hk.lenI, Int.ofNat_lt, hlt, decide_true, hak, hakc, hpos]
      refine draw36_1 (fun _ => False) ?_
      have hgd : Grow w4 w4.drew := (Keep.refl _ _).drew
      have hg5 := hg4.trans hgd
      have hg15 := hg14.trans hgd
      have hf5 := hf.grow hgd
      have hakc5 := Keep.gcell hgd hakc
      generalize w4.drew = w5 at hgd hg5 hg15 hf5 hakc5 ⊢
      obtain ⟨an, han, hanc, _⟩ := (ha.grow hg15).getI (l := zs D.waiting) (i := i) (by simpa using hlt')
      rw [hwv] at hanc
      simp (maxSteps := 600000) (disch := omega) only [PL36_1, ↓sy1, sy2, sy3, readOK, implies_true, forall_const, Nat.reduceEqDiff, ↓reduceIte, Option.map_some, Option.map_none, List.map_cons, List.map_nil, oneOf, if_true, if_false, Nat.reduceAdd, Nat.reduceMul, Option.isNone_some, Option.isNone_none, List.getElem?_toArray, List.getElem?_cons_zero, List.getElem?_cons_succ, reduceCtorEq, e10, e0, e1, e6, e9, hak, hakc5, han, hanc]
      have hql := D.wait_length n
      refine call0 (waits_spec (n := n) (h.grow (hg1.trans hg15))) ?_
      rintro v w6 ⟨vs, hv, hrows, hg6⟩
      have hul := hrows.length
      obtain ⟨av, hav, havc, _⟩ := (Has.own hv).idx (i := kk.toNat - 1) (by omega)
      have hcast : kk - 1 = ((kk.toNat - 1 : Nat) : Int) := by omega
      rw [← hcast] at hav
      have hbytes := hrows.get (kk.toNat - 1) (by omega) (by omega)
      have h512 := hok.wait n _ (List.getElem_mem (show kk.toNat - 1 < (D.wait n).length by omega))
      simp (maxSteps := 600000) (disch := omega) only [↓sy1, sy2, sy3, readOK, implies_true, forall_const, Nat.reduceEqDiff, ↓reduceIte, Option.map_some, Option.map_none, List.map_cons, List.map_nil, oneOf, if_true, if_false, Nat.reduceAdd, Nat.reduceMul, Option.isNone_some, Option.isNone_none, List.getElem?_toArray, List.getElem?_cons_zero, List.getElem?_cons_succ, reduceCtorEq, hav, havc]
      refine ⟨hg6, hg6, ?_⟩
      refine call0 (copy_spec _ _ w6 hbytes.1 (by omega)) ?_
      rintro u w7 ⟨hu, hg7⟩
      obtain ⟨us, hown, hrowsO⟩ := (hf5.grow hg6).grow hg7
      have hcl : (crashed D.safe D.wait (D.waiting.take i) ((ks.map Int.toNat).take i)).length = D.first.length := by rw [crashed_length, D.safe_length]
      obtain ⟨a2, w8, ha2, hst, ho8, hk8, hb8⟩ := own_store hown (i := n) (by omega) (Has.own hu).isCell
      simp (maxSteps := 600000) (disch := omega) only [↓sy1, sy2, sy3, readOK, implies_true, forall_const, Nat.reduceEqDiff, ↓reduceIte, Option.map_some, Option.map_none, List.map_cons, List.map_nil, oneOf, if_true, if_false, Nat.reduceAdd, Nat.reduceMul, Option.isNone_some, Option.isNone_none, List.getElem?_toArray, List.getElem?_cons_zero, List.getElem?_cons_succ, reduceCtorEq, e10, e0, e1, e6, e9, ha2, hst]
      refine ⟨hg6.trans hg7, ?_⟩
      have hgw8 : Grow w2 w8 := ((hg5.trans hg6).trans hg7).then hk8 (fun b hb h => by
        obtain ⟨hbb, _⟩ := World.ownsRow.lt hown b h; omega)
      refine R_out ⟨⟨i + 1, by omega, rfl, hgw8, ⟨us.set n u, ?_, ?_⟩⟩, ?_⟩
      · rw [hstep, if_neg (by omega), List.length_set]; exact ho8
      · rw [hstep, if_neg (by omega), List.getElem?_eq_getElem (by omega), Option.getD_some]
        have hb' := own_base hu (hg5.trans hg6).size
        exact RowsO.setAt n (hrowsO.keep hk8 (fun b hb u' n' xs' hu' => own_ne hown hu' (by decide) hb)) (own_keep hb' hk8 (fun b hb hS => own_ne hown hb' (by decide) hS hb))
      · simp only [intOf]; omega
    · have hk0 : kk = 0 := by omega
      simp (disch := omega) only [F36_L1, ↓sy1, sy2, sy3, readOK, implies_true, forall_const, Nat.reduceEqDiff, ↓reduceIte, Option.map_some, Option.map_none, List.map_cons, List.map_nil, oneOf, if_true, if_false, Nat.reduceAdd, Nat.reduceMul, Option.isNone_some, Option.isNone_none, List.getElem?_toArray, List.getElem?_cons_zero, List.getElem?_cons_succ, reduceCtorEq, e10, e0, e1, e6, e9, hk.lenI, Int.ofNat_lt, hlt, decide_true, hak, hakc, hpos, decide_false]
      refine R_out ⟨⟨i + 1, by omega, rfl, hg4, by rw [hstep, hk0]; simpa using hf⟩, ?_⟩
      simp only [intOf]; omega
  · have hie : i = ks.length := by omega
    subst hie
    have hfl : crashed D.safe D.wait (D.waiting.take ks.length) ((ks.map Int.toNat).take ks.length) = (D.crash (ks.map Int.toNat)).first := by
      show _ = crashed D.safe D.wait D.waiting (ks.map Int.toNat)
      rw [crashed_take D.wait D.waiting, List.length_map, List.take_of_length_le (l := ks.map Int.toNat) (by simp)]
    rw [hfl] at hf
    have hoc := hf.has
    have hvo : isCell out = true := by obtain ⟨vs, h, _⟩ := hoc; exact h.isCell
    have hg0 : Grow w4 (w4.alloc (.cells #[out, .slice none 0 0] 88)) := (Keep.refl _ _).alloc _
    have hb0 := heap_alloc_new w4 (.cells #[out, .slice none 0 0] 88)
    generalize hw0 : w4.alloc (.cells #[out, .slice none 0 0] 88) = w5 at hg0 hb0
    simp (disch := omega) only [F36_L1, ↓sy1, sy2, sy3, readOK, implies_true, forall_const, Nat.reduceEqDiff, ↓reduceIte, Option.map_some, Option.map_none, List.map_cons, List.map_nil, oneOf, if_true, if_false, Nat.reduceAdd, Nat.reduceMul, Option.isNone_some, Option.isNone_none, List.getElem?_toArray, List.getElem?_cons_zero, List.getElem?_cons_succ, reduceCtorEq, e10, e0, e1, e6, e9, hk.lenI, Int.ofNat_lt, hlt, decide_false, fill_of2, fillF_1of2 (b := .slice none 0 0) hvo, Option.map_some, agg2_cells (y := .slice none 0 0) hvo rfl, hw0]
    have hq : w2.heap.size ≤ w4.heap.size := hg4.size
    have hww : w.heap.size ≤ w2.heap.size := hg02.size
    have hxa : Ext0 G w (G.upto w2.heap.size (fun _ => κ') (fun _ => maxLen)) w4 := (Ext.grow hg02).trans (.upto hg4 _ _)
    have hra : RowsAt (G.upto w2.heap.size (fun _ => κ') (fun _ => maxLen)) w4 out (D.crash (ks.map Int.toNat)).first := hf.rowsAt (fun b hb => by simp [Gh.upto, Nat.not_lt.2 hb])
    have hxb : Ext0 (G.upto w2.heap.size (fun _ => κ') (fun _ => maxLen)) w4 ((G.upto w2.heap.size (fun _ => κ') (fun _ => maxLen)).at w4.heap.size κ' 0) w5 := .fresh hg0 (Nat.le_refl _)
    have hokc := hok.crash hmay
    refine R_out ⟨fun _ => ⟨w4.heap.size, _, rfl, Nat.le_trans hww hq, ⟨hokc, by simp [Dsk.crash], out, .slice none 0 0, [], hb0, Gh.at_own, Gh.at_fix, hra.ext hxb, ⟨Has.nil 3 w5, fun _ _ _ _ h => by cases h⟩, trivial⟩, hxa.trans hxb⟩, fun hn => absurd hmay hn⟩
end Go.Proofs.Ytaeejceljgjdkaa
