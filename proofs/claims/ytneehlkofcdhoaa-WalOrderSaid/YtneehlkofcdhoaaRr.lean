/- The reference's disk: what it tells. -/
import Derived.Test.YtneehlkofcdhoaaRm
import Derived.Maps.AppendAt
namespace Go.Proofs.Ytneehlkofcdhoaa
open Go
set_option linter.unusedSimpArgs false
open Go.RowKit (intOf)
theorem RefAt.parts {G : Gh} {κ : Nat} {w : World} {p : Nat} {D : Dsk} (h : RefAt G κ w p D) :
    ∃ vf vl xs, w.cell? ⟨p, 0, none⟩ = some vf ∧ w.cell? ⟨p, 1, none⟩ = some vl ∧ RowsAt G w vf D.first ∧ Has 3 w vl xs ∧ ROps G w xs D.ops ∧ (∀ w2, lenF w2 0 vf = some (.int .i64 D.first.length)) ∧ (∀ w2, lenF w2 0 vl = some (.int .i64 D.ops.length)) := by
  obtain ⟨_, _, vf, vl, xs, hp, _, _, h1, h2, h3⟩ := h
  refine ⟨vf, vl, xs, by rw [cell_block hp]; rfl, by rw [cell_block hp]; rfl, h1, h2.1, h3, fun w2 => h1.has.len w2, fun w2 => ?_⟩
  rw [h2.1.lenk (by omega), h3.length]; simp
theorem rsectors_spec {G : Gh} {κ : Nat} {w : World} {p : Nat} {D : Dsk} (h : RefAt G κ w p D) :
    Calls Try.prog 59 #[.pointer (some ⟨p, 0, none⟩)] w (Ret fun v w' => v = .int .i64 D.first.length ∧ w' = w) := by
  obtain ⟨vf, vl, xs, h0, h1, _, _, _, hl0, hl1⟩ := h.parts
  apply enter59
  apply R_in
  simp (maxSteps := 600000) (disch := omega) only [F59, ↓sy1, sy2, sy3, readOK, sy5, sy6, Nat.reduceEqDiff, ↓reduceIte, sy7, sy8, sy9, sya, oneOf, syb, syc, Nat.reduceAdd, Nat.reduceMul, syd, sye, syf, syg, syh, reduceCtorEq, h0, hl0]
  exact R_out trivial
theorem rops_spec {G : Gh} {κ : Nat} {w : World} {p : Nat} {D : Dsk} (h : RefAt G κ w p D) :
    Calls Try.prog 63 #[.pointer (some ⟨p, 0, none⟩)] w (Ret fun v w' => v = .int .i64 D.ops.length ∧ w' = w) := by
  obtain ⟨vf, vl, xs, h0, h1, _, _, _, hl0, hl1⟩ := h.parts
  apply enter63
  apply R_in
  simp (maxSteps := 600000) (disch := omega) only [F63, ↓sy1, sy2, sy3, readOK, sy5, sy6, Nat.reduceEqDiff, ↓reduceIte, sy7, sy8, sy9, sya, oneOf, syb, syc, Nat.reduceAdd, Nat.reduceMul, syd, sye, syf, syg, syh, reduceCtorEq, h1, hl1]
  exact R_out trivial
theorem flushed_spec {G : Gh} {κ : Nat} {w : World} {p : Nat} {D : Dsk} (h : RefAt G κ w p D) :
    Calls Try.prog 90 #[.pointer (some ⟨p, 0, none⟩)] w (Ret fun v w' => v = .int .i64 (flN D.ops) ∧ w' = w) := by
  have hm := h.2.1
  obtain ⟨vf, vl, xs, h0, h1, _, hx, hr, hl0, hl1⟩ := h.parts
  apply enter90
  apply R_in
  simp (maxSteps := 600000) (disch := omega) only [F90, ↓sy1, sy2, sy3, readOK, sy5, sy6, Nat.reduceEqDiff, ↓reduceIte, sy7, sy8, sy9, sya, oneOf, syb, syc, Nat.reduceAdd, Nat.reduceMul, syd, sye, syf, syg, syh, reduceCtorEq]
  refine loop_rule (fun e w' => ∃ i : Nat, i ≤ D.ops.length ∧ e 4 = .int .i64 i ∧ e 0 = .pointer (some ⟨p, 0, none⟩) ∧ e 3 = .int .i64 (flN (D.ops.take i)) ∧ w' = w) (fun e _ => D.ops.length - (intOf (e 4)).toNat)
    ⟨0, by omega, by simp [upd, updO, ev], by simp [upd, updO, ev], by simp [upd, updO, ev, flN], rfl⟩ ?_
  rintro e w' ⟨i, hi, e4, e0, e3, rfl⟩
  by_cases hlt : i < D.ops.length
  · obtain ⟨b, o, f, n, u, hia, hc0, hc1, hc2, hop⟩ := ROps.at hx hr hlt
    have htk : D.ops.take (i + 1) = D.ops.take i ++ [D.ops[i]] := List.take_succ_eq_append_getElem hlt
    cases hoo : D.ops[i] with
    | wr m c =>
      rw [hoo] at hop htk
      obtain ⟨rfl, rfl, _⟩ := hop
      simp (maxSteps := 600000) (disch := omega) only [F90_L0, ↓sy1, sy2, sy3, readOK, sy5, sy6, Nat.reduceEqDiff, ↓reduceIte, sy7, sy8, sy9, sya, oneOf, syb, syc, Nat.reduceAdd, Nat.reduceMul, syd, sye, syf, syg, syh, reduceCtorEq, e4, e0, e3, h1, hl1, Int.ofNat_lt, hlt, decide_true, hia, hc0]
      refine R_out ⟨⟨i + 1, by omega, rfl, by rw [htk, flN_wr]⟩, ?_⟩
      simp only [intOf]; omega
    | fl =>
      rw [hoo] at hop htk
      obtain ⟨rfl, rfl, _⟩ := hop
      simp (maxSteps := 600000) (disch := omega) only [F90_L0, ↓sy1, sy2, sy3, readOK, sy5, sy6, Nat.reduceEqDiff, ↓reduceIte, sy7, sy8, sy9, sya, oneOf, syb, syc, Nat.reduceAdd, Nat.reduceMul, syd, sye, syf, syg, syh, reduceCtorEq, e4, e0, e3, h1, hl1, Int.ofNat_lt, hlt, decide_true, hia, hc0]
      refine R_out ⟨⟨i + 1, by omega, rfl, by rw [htk, flN_fl, List.length_take, Nat.min_eq_left hi]; rfl⟩, ?_⟩
      simp only [intOf]; omega
  · have hie : i = D.ops.length := by omega
    subst hie
    simp (maxSteps := 600000) (disch := omega) only [F90_L0, ↓sy1, sy2, sy3, readOK, sy5, sy6, Nat.reduceEqDiff, ↓reduceIte, sy7, sy8, sy9, sya, oneOf, syb, syc, Nat.reduceAdd, Nat.reduceMul, syd, sye, syf, syg, syh, reduceCtorEq, e4, e0, e3, h1, hl1, Int.ofNat_lt, hlt, decide_false, List.take_length]
    exact R_out trivial
theorem waits_spec {G : Gh} {κ : Nat} {w : World} {p n : Nat} {D : Dsk} (h : RefAt G κ w p D) :
    Calls Try.prog 87 #[.pointer (some ⟨p, 0, none⟩), .int .i64 n] w (Ret fun v w' => ∃ vs, w'.ownsRow w.heap.size 28 1 v (D.wait n).length vs ∧ RowsF G w' vs (D.wait n) ∧ Grow w w') := by
  have hm := h.2.1
  have hh := h
  obtain ⟨vf, vl, xs, h0, h1, _, hx, hr, hl0, hl1⟩ := h.parts
  apply enter87
  apply R_in
  simp (maxSteps := 600000) (disch := omega) only [F87, ↓sy1, sy2, sy3, readOK, sy5, sy6, Nat.reduceEqDiff, ↓reduceIte, sy7, sy8, sy9, sya, oneOf, syb, syc, Nat.reduceAdd, Nat.reduceMul, syd, sye, syf, syg, syh, reduceCtorEq]
  refine call0 (flushed_spec h) ?_
  rintro _ w1 ⟨rfl, rfl⟩
  have hfl := flN_le D.ops
  simp (maxSteps := 600000) (disch := omega) only [↓sy1, sy2, sy3, readOK, sy5, sy6, Nat.reduceEqDiff, ↓reduceIte, sy7, sy8, sy9, sya, oneOf, syb, syc, Nat.reduceAdd, Nat.reduceMul, syd, sye, syf, syg, syh, reduceCtorEq]
  refine loop_rule (fun e w' => ∃ (i : Nat) (out : Value) (vs : List Value), flN D.ops ≤ i ∧ i ≤ D.ops.length ∧ e 6 = .int .i64 i ∧ e 0 = .pointer (some ⟨p, 0, none⟩) ∧ e 1 = .int .i64 n ∧ e 5 = out ∧
      w'.ownsRow w1.heap.size 28 1 out (waitsL ((D.ops.take i).drop (flN D.ops)) n).length vs ∧ RowsF G w1 vs (waitsL ((D.ops.take i).drop (flN D.ops)) n) ∧ Grow w1 w') (fun e _ => D.ops.length - (intOf (e 6)).toNat)
    ⟨flN D.ops, .slice none 0 0, [], by omega, hfl, by simp [upd, updO, ev], by simp [upd, updO, ev], by simp [upd, updO, ev], by simp [upd, updO, ev], by rw [List.drop_eq_nil_of_le (by simp; omega)]; exact World.ownsRow_nil w1 _ _ _, by rw [List.drop_eq_nil_of_le (by simp; omega)]; trivial, Keep.refl _ _⟩ ?_
  rintro e w2 ⟨i, out, vs, hf, hi, e6, e0, e1, e5, hown, hrows, hg⟩
  have h12 := Keep.gcell hg h1
  by_cases hlt : i < D.ops.length
  · obtain ⟨b, o, f, m', u, hia, hc0, hc1, hc2, hop⟩ := ROps.at hx hr hlt
    have hc1 := Keep.gcell hg hc1
    have hc2 := Keep.gcell hg hc2
    obtain ⟨m, c, hoo⟩ := flN_wrs D.ops i hlt hf
    rw [hoo] at hop
    obtain ⟨rfl, rfl, hu⟩ := hop
    have htk : (D.ops.take (i + 1)).drop (flN D.ops) = (D.ops.take i).drop (flN D.ops) ++ [.wr m c] := by
      rw [List.take_succ_eq_append_getElem hlt, hoo, List.drop_append_of_le_length (by rw [List.length_take]; omega)]
    by_cases hmn : m = n
    · have hnext : waitsL ((D.ops.take (i + 1)).drop (flN D.ops)) n = waitsL ((D.ops.take i).drop (flN D.ops)) n ++ [c] := by rw [htk]; simp [waitsL, List.filterMap_append, hmn]
      have hwl : (waitsL ((D.ops.take i).drop (flN D.ops)) n).length ≤ D.ops.length := by
        refine Nat.le_trans (List.length_filterMap_le _ _) ?_
        rw [List.length_drop, List.length_take]; omega
      have huc := hu.1.isCell
      simp (maxSteps := 600000) (disch := omega) only [F87_L0, ↓sy1, sy2, sy3, readOK, sy5, sy6, Nat.reduceEqDiff, ↓reduceIte, sy7, sy8, sy9, sya, oneOf, syb, syc, Nat.reduceAdd, Nat.reduceMul, syd, sye, syf, syg, syh, reduceCtorEq, e6, e0, e1, e5, h12, hl1, Int.ofNat_lt, hlt, decide_true, hia, hc1, hc2, show ((m : Int) = (n : Int)) = True from by simp [hmn], oneF_cell huc]
      have hga : Grow w2 (w2.alloc (.cells #[u] 28)) := (Keep.refl _ _).alloc _
      refine app_own elemR (by simp only [upd_at, Nat.reduceEqDiff, reduceIte, ev_tmp, ev_const, List.map_cons, List.map_nil, e5]) (by simp only [upd_at, Nat.reduceEqDiff, reduceIte, ev_tmp, ev_const, List.map_cons, List.map_nil]) (own_grow hown hga) Has.new1 (m := 1) rfl (by simpa using huc) (by omega) (by omega) (by have := hg.size; simp; omega) ?_
      intro out' w3 ho3 hg3
      simp (maxSteps := 600000) (disch := omega) only [↓sy1, sy2, sy3, readOK, sy5, sy6, Nat.reduceEqDiff, ↓reduceIte, sy7, sy8, sy9, sya, oneOf, syb, syc, Nat.reduceAdd, Nat.reduceMul, syd, sye, syf, syg, syh, reduceCtorEq, e6, e0, e1, e5]
      have hk3 := (Keep.refl (fun b => some b = out.ownBlock) w2).trans (((Keep.refl _ _).alloc (.cells #[u] 28)).trans (Keep.grown hg3))
      have hgw : Grow w1 w3 := hg.then hk3 (fun b hb h => by
        obtain ⟨hbb, _⟩ := World.ownsRow.lt hown b h.symm; omega)
      refine R_out ⟨⟨i + 1, out', vs ++ [u], by omega, by omega, rfl, rfl, by rw [hnext]; simpa using ho3, by rw [hnext]; exact hrows.snoc hu, hgw⟩, ?_⟩
      simp only [intOf]; omega
    · have hnext : waitsL ((D.ops.take (i + 1)).drop (flN D.ops)) n = waitsL ((D.ops.take i).drop (flN D.ops)) n := by rw [htk]; simp [waitsL, List.filterMap_append, hmn]
      simp (maxSteps := 600000) (disch := omega) only [F87_L0, ↓sy1, sy2, sy3, readOK, sy5, sy6, Nat.reduceEqDiff, ↓reduceIte, sy7, sy8, sy9, sya, oneOf, syb, syc, Nat.reduceAdd, Nat.reduceMul, syd, sye, syf, syg, syh, reduceCtorEq, e6, e0, e1, e5, h12, hl1, Int.ofNat_lt, hlt, decide_true, decide_false, hia, hc1, show ((m : Int) = (n : Int)) = False from by simp; omega]
      refine R_out ⟨⟨i + 1, out, vs, by omega, by omega, rfl, rfl, by rw [hnext]; exact hown, by rw [hnext]; exact hrows, hg⟩, ?_⟩
      simp only [intOf]; omega
  · have hie : i = D.ops.length := by omega
    subst hie
    simp (maxSteps := 600000) (disch := omega) only [F87_L0, ↓sy1, sy2, sy3, readOK, sy5, sy6, Nat.reduceEqDiff, ↓reduceIte, sy7, sy8, sy9, sya, oneOf, syb, syc, Nat.reduceAdd, Nat.reduceMul, syd, sye, syf, syg, syh, reduceCtorEq, e6, e0, e1, e5, h12, hl1, Int.ofNat_lt, hlt, decide_false]
    rw [List.take_length, ← D.wait_at n] at hown hrows
    exact R_out ⟨vs, hown, hrows.ext (κ := fun _ => False) (.grow hg), hg⟩
/-- append to an own row; where its block is then. -/
theorem app_own2 {P : Program} {k : Kont} {e : Env} {w : World} {l : List GOp} {d : Option Nat} {x y : Operand} {t el ty : TypeId} {size bytes B m cnt : Nat} {z v u : Value} {xs news : List Value} (he : ElemIs P t el size bytes z)
    (hx : ev e x = v) (hy : ev e y = u) (hown : w.ownsRow B el size v cnt xs) (hsrc : Has size w u news) (hm : news.length = m * size) (hcell : ∀ q ∈ news, isCell q = true)
    (hbytes : (cnt + m) * bytes ≤ 140737488355328) (h63 : cnt + m ≤ 140737488355328) (hB : B ≤ w.heap.size)
    (h : ∀ v' w', w'.ownsRow B el size v' (cnt + m) (xs ++ news) → w.grownBy w' v.ownBlock → (v'.ownBlock = v.ownBlock ∨ v'.ownBlock = some w.heap.size) → R (symOps P l k (updO e d v') w')) :
    R (symOps P (⟨d, .hard (H (.call { callee := .builtin .append, args := #[x, y], argTypes := #[t, t] }) ty), none⟩ :: l) k e w) := by
  obtain ⟨i, hi, hz, hsz, hby⟩ := he.hi
  have hpos := he.pos
  have h63' : cnt + m ≤ maxLen := by unfold maxLen; omega
  rcases hsrc with ⟨b, o, q, c, rfl, h1, h2, h3⟩ | ⟨rfl, rfl⟩
  · have hqm : q = m := Nat.eq_of_mul_eq_mul_right hpos (h1.symm.trans hm)
    subst hqm
    obtain ⟨v', w', hr, ho, hg, _, hb⟩ := run_append_own_at (P := P) w B t ty el i z size bytes he.ht hi hz hsz hby he.hz hpos v cnt xs hown ⟨b, o, none⟩ q c news h1
      (fun j u hj => by rw [add_lit]; exact h3 j u hj) (fun u hu => isCell_one (hcell u hu)) h63' hbytes hB
    exact hard_rule (run_builtin (vs := [v, .slice (some ⟨b, o, none⟩) q c]) (by simp [hx, hy]) (fun cs => by simp [builtin, hr])) (h v' w' ho hg hb)
  · have hm0 : m = 0 := by
      rcases Nat.eq_zero_or_pos m with h0 | h0
      · exact h0
      · have := Nat.mul_pos h0 hpos
        simp only [List.length_nil] at hm; omega
    subst hm0
    have hr : (Builtin.append_ #[t, t] ty #[v, .slice none 0 0]).run P w = .ok v w := by
      obtain ⟨_, ⟨rfl, rfl⟩ | ⟨g, cap, cur, rfl, h2, h3, h4, h5, h6, h7⟩⟩ := hown
      · simp [Builtin.append_, run_underlying he.ht, sizeOf, typeInfo, hi, Builtin.lenOf, Builtin.firstCells]
      · simp [Builtin.append_, run_underlying he.ht, sizeOf, typeInfo, hi, Builtin.lenOf, Builtin.firstCells, h4, storeCells]
    exact hard_rule (run_builtin (vs := [v, .slice none 0 0]) (by simp [hx, hy]) (fun cs => by simp [builtin, hr])) (h v w (by simpa using hown) ⟨rfl, rfl, rfl, Nat.le_refl _, fun _ _ _ => rfl⟩ (.inl rfl))
theorem rwaiting_spec {G : Gh} {κ : Nat} {w : World} {p : Nat} {D : Dsk} (h : RefAt G κ w p D) :
    Calls Try.prog 61 #[.pointer (some ⟨p, 0, none⟩)] w (Ret fun v w' => ∃ a b, v = .tuple #[a, b] ∧ HasI w' a (zs D.waiting) ∧ HasI w' b (zs D.writes) ∧ Grow w w') := by
  have hm := h.2.1
  have hmost := h.ok.most
  obtain ⟨vf, vl, xs, h0, h1, _, hx, hr, hl0, hl1⟩ := h.parts
  apply enter61
  apply R_in
  simp (maxSteps := 600000) (disch := omega) only [F61, ↓sy1, sy2, sy3, readOK, sy5, sy6, Nat.reduceEqDiff, ↓reduceIte, sy7, sy8, sy9, sya, oneOf, syb, syc, Nat.reduceAdd, Nat.reduceMul, syd, sye, syf, syg, syh, reduceCtorEq]
  refine loop_rule (fun e w' => ∃ (i : Nat) (a b : Value), i ≤ D.first.length ∧ e 6 = .int .i64 i ∧ e 0 = .pointer (some ⟨p, 0, none⟩) ∧ e 4 = a ∧ e 5 = b ∧
      w'.ownsRow w.heap.size 3 1 a (D.waitingTo i).length (ints (zs (D.waitingTo i))) ∧ w'.ownsRow w.heap.size 3 1 b (D.waitingTo i).length (ints (zs ((D.waitingTo i).map fun n => (D.wait n).length))) ∧
      (∀ g, a.ownBlock = some g → b.ownBlock ≠ some g) ∧ Grow w w') (fun e _ => D.first.length - (intOf (e 6)).toNat)
    ⟨0, .slice none 0 0, .slice none 0 0, by omega, by simp [upd, updO, ev], by simp [upd, updO, ev], by simp [upd, updO, ev], by simp [upd, updO, ev], World.ownsRow_nil w _ _ _, World.ownsRow_nil w _ _ _, fun g hg => (by cases hg), Keep.refl _ _⟩ ?_
  rintro e w1 ⟨i, a, b, hi, e6, e0, e4, e5, ha, hb, hab, hg⟩
  have h01 := Keep.gcell hg h0
  by_cases hlt : i < D.first.length
  · simp (maxSteps := 600000) (disch := omega) only [F61_L0, ↓sy1, sy2, sy3, readOK, sy5, sy6, Nat.reduceEqDiff, ↓reduceIte, sy7, sy8, sy9, sya, oneOf, syb, syc, Nat.reduceAdd, Nat.reduceMul, syd, sye, syf, syg, syh, reduceCtorEq, e6, e0, e4, e5, h01, hl0, Int.ofNat_lt, hlt, decide_true]
    refine call0 (waits_spec (n := i) (h.grow hg)) ?_
    rintro v w2 ⟨vs, hv, _, hg2⟩
    have hlv : ∀ w3, lenF w3 0 v = some (.int .i64 (D.wait i).length) := fun w3 => by
      have h2 : vs.length = (D.wait i).length := by simpa using hv.1
      rw [(Has.own hv).len, h2]
    have hwo := D.wait_length i
    have hwt := D.waitingTo_succ i
    have hwtl : (D.waitingTo i).length ≤ i := by
      refine Nat.le_trans (List.length_filter_le _ _) (by simp)
    by_cases hne : D.wait i = []
    · rw [if_pos hne] at hwt
      have hz : ¬ ((0 : Int) < ((D.wait i).length : Int)) := by rw [hne]; simp
      simp (maxSteps := 600000) (disch := omega) only [↓sy1, sy2, sy3, readOK, sy5, sy6, Nat.reduceEqDiff, ↓reduceIte, sy7, sy8, sy9, sya, oneOf, syb, syc, Nat.reduceAdd, Nat.reduceMul, syd, sye, syf, syg, syh, reduceCtorEq, e6, e0, e4, e5, hlv, hz, decide_false]
      refine R_out ⟨⟨i + 1, a, b, by omega, rfl, rfl, rfl, by rw [hwt]; exact own_grow ha hg2, by rw [hwt]; exact own_grow hb hg2, hab, hg.trans hg2⟩, ?_⟩
      simp only [intOf]; omega
    · rw [if_neg hne] at hwt
      have hpos : 0 < (D.wait i).length := List.length_pos_iff.2 hne
      have hz : (0 : Int) < ((D.wait i).length : Int) := by omega
      simp (maxSteps := 600000) (disch := omega) only [↓sy1, sy2, sy3, readOK, sy5, sy6, Nat.reduceEqDiff, ↓reduceIte, sy7, sy8, sy9, sya, oneOf, syb, syc, Nat.reduceAdd, Nat.reduceMul, syd, sye, syf, syg, syh, reduceCtorEq, e6, e0, e4, e5, hlv, hz, decide_true]
      have ha2 := own_grow ha hg2
      have hb2 := own_grow hb hg2
      have hga : Grow w2 (w2.alloc (.cells #[.int .i64 (i : Int)] 3)) := (Keep.refl _ _).alloc _
      refine app_own2 elemI (by simp only [upd_at, Nat.reduceEqDiff, reduceIte, ev_tmp, ev_const, List.map_cons, List.map_nil, e4]) (by simp only [upd_at, Nat.reduceEqDiff, reduceIte, ev_tmp, ev_const, List.map_cons, List.map_nil]) (own_grow ha2 hga) Has.new1 (m := 1) rfl (by simp [isCell]) (by omega) (by omega) (by have := hg.size; have := hg2.size; simp; omega) ?_
      intro a' w3 ha3 hg3 hwa
      simp (maxSteps := 600000) (disch := omega) only [↓sy1, sy2, sy3, readOK, sy5, sy6, Nat.reduceEqDiff, ↓reduceIte, sy7, sy8, sy9, sya, oneOf, syb, syc, Nat.reduceAdd, Nat.reduceMul, syd, sye, syf, syg, syh, reduceCtorEq, e6, e0, e4, e5]
      have hb3 := own_keep (own_grow hb2 hga) (Keep.grown hg3) (fun g hgb hga' => hab g hga'.symm hgb)
      have hgw3 : Grow w w3 := ((hg.trans hg2).trans hga).then (Keep.grown hg3) (fun g hgl hgs => by
        obtain ⟨hbb, _⟩ := World.ownsRow.lt ha2 g hgs.symm; omega)
      have hs2 : w2.heap.size < (w2.alloc (.cells #[.int .i64 (i : Int)] 3)).heap.size := by simp
      have hab3 : ∀ g, a'.ownBlock = some g → b.ownBlock ≠ some g := fun g hga' hgb => by
        rcases hwa with h | h
        · exact hab g (h ▸ hga') hgb
        · rw [h] at hga'; cases hga'
          have := (World.ownsRow.lt hb2 _ hgb).2; omega
      have hgb' : Grow w3 (w3.alloc (.cells #[.int .i64 ((D.wait i).length : Int)] 3)) := (Keep.refl _ _).alloc _
      refine app_own2 elemI (by simp only [upd_at, Nat.reduceEqDiff, reduceIte, ev_tmp, ev_const, List.map_cons, List.map_nil, e5]) (by simp only [upd_at, Nat.reduceEqDiff, reduceIte, ev_tmp, ev_const, List.map_cons, List.map_nil]) (own_grow hb3 hgb') Has.new1 (m := 1) rfl (by simp [isCell]) (by omega) (by omega) (by have := hgw3.size; simp; omega) ?_
      intro b' w4 hb4 hg4 hwb
      simp (maxSteps := 600000) (disch := omega) only [↓sy1, sy2, sy3, readOK, sy5, sy6, Nat.reduceEqDiff, ↓reduceIte, sy7, sy8, sy9, sya, oneOf, syb, syc, Nat.reduceAdd, Nat.reduceMul, syd, sye, syf, syg, syh, reduceCtorEq, e6, e0, e4, e5]
      have ha4 := own_keep (own_grow ha3 hgb') (Keep.grown hg4) (fun g hga' hgb => hab3 g hga' hgb.symm)
      have hs3 : w3.heap.size < (w3.alloc (.cells #[.int .i64 ((D.wait i).length : Int)] 3)).heap.size := by simp
      refine R_out ⟨⟨i + 1, a', b', by omega, rfl, rfl, rfl, by rw [hwt]; simpa [ints, zs] using ha4, by rw [hwt]; simpa [ints, zs] using hb4, fun g hga' hgb => ?_, ?_⟩, ?_⟩
      · rcases hwb with h | h
        · exact hab3 g hga' (h ▸ hgb)
        · rw [h] at hgb; cases hgb
          have := (World.ownsRow.lt ha3 _ hga').2; omega
      · exact (hgw3.trans hgb').then (Keep.grown hg4) (fun g hgl hgs => by
          obtain ⟨hbb, _⟩ := World.ownsRow.lt hb3 g hgs.symm; omega)
      · simp only [intOf]; omega
  · have hie : i = D.first.length := by omega
    subst hie
    simp (maxSteps := 600000) (disch := omega) only [F61_L0, ↓sy1, sy2, sy3, readOK, sy5, sy6, Nat.reduceEqDiff, ↓reduceIte, sy7, sy8, sy9, sya, oneOf, syb, syc, Nat.reduceAdd, Nat.reduceMul, syd, sye, syf, syg, syh, reduceCtorEq, e6, e0, e4, e5, h01, hl0, Int.ofNat_lt, hlt, decide_false]
    rw [D.waitingTo_all] at ha hb
    exact R_out ⟨a, b, rfl, Has.own ha, Has.own hb, hg⟩
theorem RowsO.setAt {B : Nat} {ty : TypeId} {w : World} : ∀ {vs : List Value} {ls : List (List UInt8)} {v : Value} {l : List UInt8} (i : Nat), RowsO B ty w vs ls → w.ownsRow B ty 1 v l.length (bs l) → RowsO B ty w (vs.set i v) (ls.set i l)
  | [], [], _, _, _, _, _ => trivial
  | _ :: _, _ :: _, _, _, 0, ⟨_, h2⟩, h => ⟨h, h2⟩
  | _ :: _, _ :: _, _, _, i + 1, ⟨h1, h2⟩, h => ⟨h1, RowsO.setAt i h2 h⟩
/-- The image behind the first k operations. -/
theorem at_spec {G : Gh} {κ : Nat} {w : World} {p k : Nat} {D : Dsk} (h : RefAt G κ w p D) (hk : k ≤ D.ops.length) :
    Calls Try.prog 88 #[.pointer (some ⟨p, 0, none⟩), .int .i64 k] w (Ret fun v w' => FreshR w.heap.size 28 5 w' v (D.cut k).image ∧ Grow w w') := by
  have hm := h.2.1
  have hok := h.ok
  have hmost := hok.most
  obtain ⟨vf, vl, xs, h0, h1, hrf, hx, hr, hl0, hl1⟩ := h.parts
  apply enter88
  apply R_in
  simp (maxSteps := 600000) (disch := omega) only [F88, ↓sy1, sy2, sy3, readOK, sy5, sy6, Nat.reduceEqDiff, ↓reduceIte, sy7, sy8, sy9, sya, oneOf, syb, syc, Nat.reduceAdd, Nat.reduceMul, syd, sye, syf, syg, syh, reduceCtorEq, h0]
  refine call0 (copyAll_spec vf _ w hrf.has (by omega) (.of512 hok.rows)) ?_
  rintro out w1 ⟨hout, hg1⟩
  simp (maxSteps := 600000) (disch := omega) only [↓sy1, sy2, sy3, readOK, sy5, sy6, Nat.reduceEqDiff, ↓reduceIte, sy7, sy8, sy9, sya, oneOf, syb, syc, Nat.reduceAdd, Nat.reduceMul, syd, sye, syf, syg, syh, reduceCtorEq]
  refine loop_rule (fun e w' => ∃ i : Nat, i ≤ k ∧ e 6 = .int .i64 i ∧ e 0 = .pointer (some ⟨p, 0, none⟩) ∧ e 1 = .int .i64 k ∧ e 5 = out ∧ FreshR w.heap.size 28 5 w' out (D.cut i).image ∧ Grow w w') (fun e _ => k - (intOf (e 6)).toNat)
    ⟨0, by omega, by simp [upd, updO, ev], by simp [upd, updO, ev], by simp [upd, updO, ev], by simp [upd, updO, ev], by rw [D.cut_zero]; exact hout, hg1⟩ ?_
  rintro e w2 ⟨i, hi, e6, e0, e1, e5, hf, hg⟩
  have h12 := Keep.gcell hg h1
  by_cases hlt : i < k
  · obtain ⟨b, o, f, n', u, hia, hc0, hc1, hc2, hop⟩ := ROps.at hx hr (show i < D.ops.length by omega)
    have hcut := D.cut_succ (show i < D.ops.length by omega)
    have hc02 := Keep.gcell hg hc0
    cases hoo : D.ops[i] with
    | fl =>
      rw [hoo] at hop hcut
      obtain ⟨rfl, rfl, _⟩ := hop
      simp (maxSteps := 600000) (disch := omega) only [F88_L0, ↓sy1, sy2, sy3, readOK, sy5, sy6, Nat.reduceEqDiff, ↓reduceIte, sy7, sy8, sy9, sya, oneOf, syb, syc, Nat.reduceAdd, Nat.reduceMul, syd, sye, syf, syg, syh, reduceCtorEq, e6, e0, e1, e5, h12, Int.ofNat_lt, hlt, decide_true, hia, hc02]
      refine R_out ⟨⟨i + 1, by omega, rfl, by rw [hcut, Dsk.image_fl]; exact hf, hg⟩, ?_⟩
      simp only [intOf]; omega
    | wr n c =>
      rw [hoo] at hop hcut
      obtain ⟨rfl, rfl, hu⟩ := hop
      obtain ⟨hn1, hn2⟩ := hok.ops n c (hoo ▸ List.getElem_mem _)
      simp (maxSteps := 600000) (disch := omega) only [F88_L0, ↓sy1, sy2, sy3, readOK, sy5, sy6, Nat.reduceEqDiff, ↓reduceIte, sy7, sy8, sy9, sya, oneOf, syb, syc, Nat.reduceAdd, Nat.reduceMul, syd, sye, syf, syg, syh, reduceCtorEq, e6, e0, e1, e5, h12, Int.ofNat_lt, hlt, decide_true, hia, hc02]
      refine draw88_0 (fun _ => False) ?_
      have hgd : Grow w2 w2.drew := (Keep.refl _ _).drew
      have hg3 := hg.trans hgd
      have hf3 := hf.grow hgd
      generalize w2.drew = w3 at hg3 hf3 ⊢
      have h13 := Keep.gcell hg3 h1
      have hc13 := Keep.gcell hg3 hc1
      have hc23 := Keep.gcell hg3 hc2
      obtain ⟨vs, hown, hrows⟩ := hf3
      have hil : (D.cut i).image.length = D.first.length := by rw [Dsk.image_length]; rfl
      simp (maxSteps := 600000) (disch := omega) only [PL88_0, ↓sy1, sy2, sy3, readOK, sy5, sy6, Nat.reduceEqDiff, ↓reduceIte, sy7, sy8, sy9, sya, oneOf, syb, syc, Nat.reduceAdd, Nat.reduceMul, syd, sye, syf, syg, syh, reduceCtorEq, e6, e0, e1, e5, h13, hia, hc13, hc23]
      refine call0 (copy_spec u _ w3 (hu.1.grow hg3) (by omega)) ?_
      rintro v w4 ⟨hv, hg4⟩
      have hown4 := own_grow hown hg4
      obtain ⟨a, w5, ha, hst, ho5, hk5, hbk⟩ := own_store hown4 (i := n) (by omega) (Has.own hv).isCell
      simp (maxSteps := 600000) (disch := omega) only [↓sy1, sy2, sy3, readOK, sy5, sy6, Nat.reduceEqDiff, ↓reduceIte, sy7, sy8, sy9, sya, oneOf, syb, syc, Nat.reduceAdd, Nat.reduceMul, syd, sye, syf, syg, syh, reduceCtorEq, e6, e0, e1, e5, ha, hst]
      refine ⟨hg4, ?_⟩
      have hgw : Grow w w5 := (hg3.trans hg4).then hk5 (fun b hb h => by
        obtain ⟨hbb, _⟩ := World.ownsRow.lt hown4 b h; omega)
      refine R_out ⟨⟨i + 1, by omega, rfl, ⟨vs.set n v, ?_, ?_⟩, hgw⟩, ?_⟩
      · rw [hcut, Dsk.image_wr, List.length_set]; exact ho5
      · rw [hcut, Dsk.image_wr]
        have hb' := own_base hv hg3.size
        exact RowsO.setAt n ((hrows.grow hg4).keep hk5 (fun b hb u' n' xs' hu' => own_ne hown4 hu' (by decide) hb)) (own_keep hb' hk5 (fun b hb hS => own_ne hown4 hb' (by decide) hS hb))
      · simp only [intOf]; omega
  · have hie : i = k := by omega
    subst hie
    simp (maxSteps := 600000) (disch := omega) only [F88_L0, ↓sy1, sy2, sy3, readOK, sy5, sy6, Nat.reduceEqDiff, ↓reduceIte, sy7, sy8, sy9, sya, oneOf, syb, syc, Nat.reduceAdd, Nat.reduceMul, syd, sye, syf, syg, syh, reduceCtorEq, e6, e0, e1, e5, Int.ofNat_lt, hlt, decide_false]
    exact R_out ⟨hf, hg⟩
theorem rimage_spec {G : Gh} {κ : Nat} {w : World} {p : Nat} {D : Dsk} (h : RefAt G κ w p D) :
    Calls Try.prog 64 #[.pointer (some ⟨p, 0, none⟩)] w (Ret fun v w' => FreshR w.heap.size 28 5 w' v D.image ∧ Grow w w') := by
  obtain ⟨vf, vl, xs, h0, h1, _, _, _, hl0, hl1⟩ := h.parts
  apply enter64
  apply R_in
  simp (maxSteps := 600000) (disch := omega) only [F64, ↓sy1, sy2, sy3, readOK, sy5, sy6, Nat.reduceEqDiff, ↓reduceIte, sy7, sy8, sy9, sya, oneOf, syb, syc, Nat.reduceAdd, Nat.reduceMul, syd, sye, syf, syg, syh, reduceCtorEq, h1, hl1]
  refine call0 (at_spec h (Nat.le_refl _)) ?_
  rintro v w1 ⟨hv, hg⟩
  simp (maxSteps := 600000) (disch := omega) only [↓sy1, sy2, sy3, readOK, sy5, sy6, Nat.reduceEqDiff, ↓reduceIte, sy7, sy8, sy9, sya, oneOf, syb, syc, Nat.reduceAdd, Nat.reduceMul, syd, sye, syf, syg, syh, reduceCtorEq]
  rw [D.cut_all] at hv
  exact R_out ⟨hv, hg⟩
theorem rsafe_spec {G : Gh} {κ : Nat} {w : World} {p : Nat} {D : Dsk} (h : RefAt G κ w p D) :
    Calls Try.prog 66 #[.pointer (some ⟨p, 0, none⟩)] w (Ret fun v w' => FreshR w.heap.size 28 5 w' v D.safe ∧ Grow w w') := by
  apply enter66
  apply R_in
  simp (maxSteps := 600000) (disch := omega) only [F66, ↓sy1, sy2, sy3, readOK, sy5, sy6, Nat.reduceEqDiff, ↓reduceIte, sy7, sy8, sy9, sya, oneOf, syb, syc, Nat.reduceAdd, Nat.reduceMul, syd, sye, syf, syg, syh, reduceCtorEq]
  refine call0 (flushed_spec h) ?_
  rintro _ w1 ⟨rfl, rfl⟩
  simp (maxSteps := 600000) (disch := omega) only [↓sy1, sy2, sy3, readOK, sy5, sy6, Nat.reduceEqDiff, ↓reduceIte, sy7, sy8, sy9, sya, oneOf, syb, syc, Nat.reduceAdd, Nat.reduceMul, syd, sye, syf, syg, syh, reduceCtorEq]
  refine call0 (at_spec h (flN_le D.ops)) ?_
  rintro v w2 ⟨hv, hg⟩
  simp (maxSteps := 600000) (disch := omega) only [↓sy1, sy2, sy3, readOK, sy5, sy6, Nat.reduceEqDiff, ↓reduceIte, sy7, sy8, sy9, sya, oneOf, syb, syc, Nat.reduceAdd, Nat.reduceMul, syd, sye, syf, syg, syh, reduceCtorEq]
  rw [D.safe_at] at hv
  exact R_out ⟨hv, hg⟩
theorem rread_bad {G : Gh} {κ : Nat} {w : World} {p : Nat} {n : Int} {D : Dsk} (h : RefAt G κ w p D) (hn : n < 0 ∨ D.first.length ≤ n) :
    Calls Try.prog 60 #[.pointer (some ⟨p, 0, none⟩), .int .i64 n] w (Ret fun v w' => v = .tuple #[.slice none 0 0, .int .i64 2] ∧ w' = w) := by
  apply enter60
  apply R_in
  simp (maxSteps := 600000) (disch := omega) only [F60, ↓sy1, sy2, sy3, readOK, sy5, sy6, Nat.reduceEqDiff, ↓reduceIte, sy7, sy8, sy9, sya, oneOf, syb, syc, Nat.reduceAdd, Nat.reduceMul, syd, sye, syf, syg, syh, reduceCtorEq]
  refine call0 (look_bad h hn) ?_
  rintro _ w1 ⟨rfl, rfl⟩
  simp (maxSteps := 600000) (disch := omega) only [↓sy1, sy2, sy3, readOK, sy5, sy6, Nat.reduceEqDiff, ↓reduceIte, sy7, sy8, sy9, sya, oneOf, syb, syc, Nat.reduceAdd, Nat.reduceMul, syd, sye, syf, syg, syh, reduceCtorEq, show ¬ ((2 : Int) = 0) from by omega, decide_false]
  exact R_out trivial
theorem rread_nil {w : World} {n : Int} : Calls Try.prog 60 #[.pointer none, .int .i64 n] w (Ret fun v w' => v = .tuple #[.slice none 0 0, .int .i64 1] ∧ w' = w) := by
  apply enter60
  apply R_in
  simp (maxSteps := 600000) (disch := omega) only [F60, ↓sy1, sy2, sy3, readOK, sy5, sy6, Nat.reduceEqDiff, ↓reduceIte, sy7, sy8, sy9, sya, oneOf, syb, syc, Nat.reduceAdd, Nat.reduceMul, syd, sye, syf, syg, syh, reduceCtorEq]
  refine call0 look_nil ?_
  rintro _ w1 ⟨rfl, rfl⟩
  simp (maxSteps := 600000) (disch := omega) only [↓sy1, sy2, sy3, readOK, sy5, sy6, Nat.reduceEqDiff, ↓reduceIte, sy7, sy8, sy9, sya, oneOf, syb, syc, Nat.reduceAdd, Nat.reduceMul, syd, sye, syf, syg, syh, reduceCtorEq, show ¬ ((1 : Int) = 0) from by omega, decide_false]
  exact R_out trivial
theorem rread_spec {G : Gh} {κ : Nat} {w : World} {p n : Nat} {D : Dsk} (h : RefAt G κ w p D) (hn : n < D.first.length) :
    Calls Try.prog 60 #[.pointer (some ⟨p, 0, none⟩), .int .i64 n] w (Ret fun v w' => ∃ u, v = .tuple #[u, .int .i64 0] ∧ HasB w' u (D.image[n]'(by rw [D.image_length]; exact hn)) ∧ Grow w w') := by
  have hm := h.2.1
  have hok := h.ok
  have hmost := hok.most
  have hil := D.image_length
  obtain ⟨vf, vl, xs, h0, h1, hrf, hx, hr, hl0, hl1⟩ := h.parts
  have hcl : ∀ k, (D.cut k).image.length = D.first.length := fun k => by rw [Dsk.image_length]; rfl
  apply enter60
  apply R_in
  simp (maxSteps := 600000) (disch := omega) only [F60, ↓sy1, sy2, sy3, readOK, sy5, sy6, Nat.reduceEqDiff, ↓reduceIte, sy7, sy8, sy9, sya, oneOf, syb, syc, Nat.reduceAdd, Nat.reduceMul, syd, sye, syf, syg, syh, reduceCtorEq]
  refine call0 (look_ok h hn) ?_
  rintro _ w1 ⟨rfl, rfl⟩
  simp (maxSteps := 600000) (disch := omega) only [↓sy1, sy2, sy3, readOK, sy5, sy6, Nat.reduceEqDiff, ↓reduceIte, sy7, sy8, sy9, sya, oneOf, syb, syc, Nat.reduceAdd, Nat.reduceMul, syd, sye, syf, syg, syh, reduceCtorEq, h1, hl1, decide_true]
  refine loop_rule (fun e w' => ∃ i : Nat, i ≤ D.ops.length ∧ e 7 = .int .i64 ((i : Int) - 1) ∧ e 0 = .pointer (some ⟨p, 0, none⟩) ∧ e 1 = .int .i64 n ∧ (D.cut i).image[n]? = D.image[n]? ∧ w' = w1) (fun e _ => ((intOf (e 7)) + 1).toNat)
    ⟨D.ops.length, Nat.le_refl _, by simp [upd, updO, ev], by simp [upd, updO, ev], by simp [upd, updO, ev], by rw [D.cut_all], rfl⟩ ?_
  rintro e w2 ⟨i, hi, e7, e0, e1, himg, rfl⟩
  match i, hi, e7, himg with
  | 0, hi, e7, himg =>
    have hc0 : (D.cut 0).image = D.first := D.cut_zero
    rw [hc0, List.getElem?_eq_getElem hn, List.getElem?_eq_getElem (by omega)] at himg
    obtain ⟨a, u, ha, hac, hu⟩ := hrf.has.get hn
    simp (maxSteps := 600000) (disch := omega) only [F60_L0, ↓sy1, sy2, sy3, readOK, sy5, sy6, Nat.reduceEqDiff, ↓reduceIte, sy7, sy8, sy9, sya, oneOf, syb, syc, Nat.reduceAdd, Nat.reduceMul, syd, sye, syf, syg, syh, reduceCtorEq, e7, e0, e1, show ¬ ((0 : Int) ≤ ((0 : Nat) : Int) - 1) from by omega, decide_false, h0, ha, hac]
    have h512 := hok.rows _ (List.getElem_mem hn)
    refine call0 (copy_spec u _ w2 hu (by omega)) ?_
    rintro v w3 ⟨hv, hg⟩
    simp (maxSteps := 600000) (disch := omega) only [↓sy1, sy2, sy3, readOK, sy5, sy6, Nat.reduceEqDiff, ↓reduceIte, sy7, sy8, sy9, sya, oneOf, syb, syc, Nat.reduceAdd, Nat.reduceMul, syd, sye, syf, syg, syh, reduceCtorEq]
    rw [Option.some.inj himg] at hv
    exact R_out ⟨v, rfl, Has.own hv, hg⟩
  | i + 1, hi, e7, himg =>
    have e7' : e 7 = .int .i64 (i : Int) := by rw [e7]; simp
    have hlt : i < D.ops.length := by omega
    obtain ⟨b, o, f, n', u, hia, hc0, hc1, hc2, hop⟩ := ROps.at hx hr hlt
    have hcut := D.cut_succ hlt
    cases hoo : D.ops[i] with
    | fl =>
      rw [hoo] at hop hcut
      obtain ⟨rfl, rfl, _⟩ := hop
      rw [hcut, Dsk.image_fl] at himg
      simp (maxSteps := 600000) (disch := omega) only [F60_L0, ↓sy1, sy2, sy3, readOK, sy5, sy6, Nat.reduceEqDiff, ↓reduceIte, sy7, sy8, sy9, sya, oneOf, syb, syc, Nat.reduceAdd, Nat.reduceMul, syd, sye, syf, syg, syh, reduceCtorEq, e7', e0, e1, show ((0 : Int) ≤ (i : Int)) from by omega, decide_true, h1, hia, hc0]
      refine R_out ⟨⟨i, by omega, rfl, himg⟩, ?_⟩
      simp only [intOf]; omega
    | wr m c =>
      rw [hoo] at hop hcut
      obtain ⟨rfl, rfl, hu⟩ := hop
      obtain ⟨hn1, hn2⟩ := hok.ops m c (hoo ▸ List.getElem_mem _)
      rw [hcut, Dsk.image_wr] at himg
      by_cases hmn : m = n
      · subst hmn
        rw [List.getElem?_set_self (by rw [hcl]; exact hn), List.getElem?_eq_getElem (by omega)] at himg
        simp (maxSteps := 600000) (disch := omega) only [F60_L0, ↓sy1, sy2, sy3, readOK, sy5, sy6, Nat.reduceEqDiff, ↓reduceIte, sy7, sy8, sy9, sya, oneOf, syb, syc, Nat.reduceAdd, Nat.reduceMul, syd, sye, syf, syg, syh, reduceCtorEq, e7', e0, e1, show ((0 : Int) ≤ (i : Int)) from by omega, decide_true, h1, hia, hc0, hc1, hc2]
        refine call0 (copy_spec u _ w2 hu.1 (by omega)) ?_
        rintro v w3 ⟨hv, hg⟩
        simp (maxSteps := 600000) (disch := omega) only [↓sy1, sy2, sy3, readOK, sy5, sy6, Nat.reduceEqDiff, ↓reduceIte, sy7, sy8, sy9, sya, oneOf, syb, syc, Nat.reduceAdd, Nat.reduceMul, syd, sye, syf, syg, syh, reduceCtorEq]
        rw [Option.some.inj himg] at hv
        exact R_out ⟨v, rfl, Has.own hv, hg⟩
      · rw [List.getElem?_set_ne hmn] at himg
        simp (maxSteps := 600000) (disch := omega) only [F60_L0, ↓sy1, sy2, sy3, readOK, sy5, sy6, Nat.reduceEqDiff, ↓reduceIte, sy7, sy8, sy9, sya, oneOf, syb, syc, Nat.reduceAdd, Nat.reduceMul, syd, sye, syf, syg, syh, reduceCtorEq, e7', e0, e1, show ((0 : Int) ≤ (i : Int)) from by omega, decide_true, h1, hia, hc0, hc1, show ((m : Int) = (n : Int)) = False from by simp; omega, decide_false]
        refine R_out ⟨⟨i, by omega, rfl, himg⟩, ?_⟩
        simp only [intOf]; omega
end Go.Proofs.Ytneehlkofcdhoaa
