/- Texts of one claim, put together in their order: what each proves stands ahead of it. -/
import Derived.Test.YtgmodahpcpepjaaGreatMe
import Derived.Test.YtgmodahpcpepjaaGreatMc
import Derived.Carry
import Derived.Deep.Slices
import Derived.Lib.SmallJoins
import Derived.OpenShut
/- The reference's Commit: the walk. -/
namespace Go.Proofs.YtgmodahpcpepjaaGreat
open Go
set_option linter.unusedSimpArgs false
open Go.RowKit (intOf)
theorem cellsQ_cell {G : Gh} {κ : Nat} {w : World} {qs : List Qg} (h : ∀ q ∈ qs, Held G κ w q.2 (bs q.1.2)) : ∀ u ∈ cellsQ qs, isCell u = true := fun u hu => by
  obtain ⟨q, hq, hu⟩ := List.mem_flatMap.1 hu
  simp at hu
  rcases hu with rfl | rfl
  · rfl
  · exact (h q hq).1.isCell
/-- An element of the row that is sorted. -/
theorem Has.atQ {w : World} {v : Value} {qs : List Qg} (h : Has 2 w v (cellsQ qs)) {i : Nat} (hi : i < qs.length) :
    ∃ b o, iaF 2 v (.int .i64 i) = some (.pointer (some ⟨b, o, none⟩)) ∧ w.cell? ⟨b, o, none⟩ = some (.int .i64 qs[i].1.1) ∧ w.cell? ⟨b, o + 1, none⟩ = some qs[i].2 := by
  obtain ⟨b, o, h5, h6, _⟩ := h.idxk (i := i) (by rw [cellsQ_length]; omega)
  obtain ⟨h7, h8⟩ := cellsQ_get qs i hi
  obtain ⟨x, hx, hxc⟩ := h6 0 (by omega)
  obtain ⟨y, hy, hyc⟩ := h6 1 (by omega)
  rw [show i * 2 + 0 = 2 * i from by omega, h7] at hx
  rw [show i * 2 + 1 = 2 * i + 1 from by omega, h8] at hy
  cases hx; cases hy
  exact ⟨b, o, h5, hxc, hyc⟩
set_option maxHeartbeats 8000000 in
theorem rcommit_spec {G : Gh} {κ : Nat} {w : World} {q size came : Nat} {D : Dsk} {v : Value} {ps : List Pg} {xs : List Value} (h : RLogAt G κ w q size came D) (hp : PagesH G κ w v ps xs) (hl : ps.length ≤ 1048576) (ho : D.ops.length < 700000) :
    Calls Tryz.prog 64 #[.pointer (some ⟨q, 0, none⟩), v] w (Ret fun r w' => r = .int .i64 (ccode D.first.length size ps) ∧ ∃ G', RLogAt G' κ w' q size came (cdone size D ps) ∧ Ext (fun c => c = κ) G w G' w') := by
  have hmost := h.cells.choose_spec.1.ok.most
  have hs1 := h.2.1
  have hs2 := h.2.2.1
  have hlen := hp.len
  apply enter64
  apply R_in
  by_cases hps : ps = []
  · subst hps
    simp (maxSteps := 1000000) (disch := omega) only [↓sy1, sy2, sy3, readOK, sy5, sy6, Nat.reduceEqDiff, ↓reduceIte, sy7, sy8, sy9, sya, oneOf, syb, syc, Nat.reduceAdd, Nat.reduceMul, syd, sye, syf, syg, syh, reduceCtorEq, F64, hlen, List.length_nil, show (((0 : Nat) : Int) = 0) = True from by simp, decide_true]
    exact R_out ⟨by simp [ccode], G, by simpa [cdone] using h, .refl _ _ _⟩
  have hpos : 0 < ps.length := List.length_pos_iff.2 hps
  simp (maxSteps := 1000000) (disch := omega) only [↓sy1, sy2, sy3, readOK, sy5, sy6, Nat.reduceEqDiff, ↓reduceIte, sy7, sy8, sy9, sya, oneOf, syb, syc, Nat.reduceAdd, Nat.reduceMul, syd, sye, syf, syg, syh, reduceCtorEq, F64, hlen, show ¬ ((ps.length : Int) = 0) from by omega, decide_false]
  refine call0 (rcapacity_spec h) ?_
  rintro _ w1 ⟨rfl, rfl⟩
  by_cases hcap : min size 100 < ps.length
  · simp (maxSteps := 1000000) (disch := omega) only [↓sy1, sy2, sy3, readOK, sy5, sy6, Nat.reduceEqDiff, ↓reduceIte, sy7, sy8, sy9, sya, oneOf, syb, syc, Nat.reduceAdd, Nat.reduceMul, syd, sye, syf, syg, syh, reduceCtorEq, hlen, show ((min size 100 : Nat) : Int) < (ps.length : Int) from by omega, decide_true]
    exact R_out ⟨by simp [ccode, hps, hcap], G, by simpa [cdone, ccode, hps, hcap] using h, .refl _ _ _⟩
  simp (maxSteps := 1000000) (disch := omega) only [↓sy1, sy2, sy3, readOK, sy5, sy6, Nat.reduceEqDiff, ↓reduceIte, sy7, sy8, sy9, sya, oneOf, syb, syc, Nat.reduceAdd, Nat.reduceMul, syd, sye, syf, syg, syh, reduceCtorEq, hlen, show ¬ (((min size 100 : Nat) : Int) < (ps.length : Int)) from by omega, decide_false]
  have hbadR : ∀ {w' : World}, Grow w1 w' → anyOut (D.first.length - size - 1) ps → R ((Value.int .i64 2) = .int .i64 (ccode D.first.length size ps) ∧ ∃ G', RLogAt G' κ w' q size came (cdone size D ps) ∧ Ext (fun c => c = κ) G w1 G' w') := fun {w'} hg hany =>
    R_out ⟨by simp [ccode, hps, hcap, hany], G, by simpa [cdone, ccode, hps, hcap, hany] using h.grow hg, .grow hg⟩
  refine loop_rule (fun e w' => ∃ i : Nat, i ≤ ps.length ∧ e 5 = .int .i64 i ∧ e 1 = v ∧ e 0 = .pointer (some ⟨q, 0, none⟩) ∧ (∀ j (hj : j < ps.length), j < i → ¬ outOf (D.first.length - size - 1) ps[j].1) ∧ Grow w1 w') (fun e _ => ps.length - (intOf (e 5)).toNat)
    ⟨0, by omega, by simp [upd, updO, ev], by simp [upd, updO, ev], by simp [upd, updO, ev], fun j _ hj => by omega, Keep.refl _ _⟩ ?_
  rintro e w2 ⟨i, hi, e5, e1, e0, hgood, hg2⟩
  by_cases hlt : i < ps.length
  · simp (maxSteps := 1000000) (disch := omega) only [↓sy1, sy2, sy3, readOK, sy5, sy6, Nat.reduceEqDiff, ↓reduceIte, sy7, sy8, sy9, sya, oneOf, syb, syc, Nat.reduceAdd, Nat.reduceMul, syd, sye, syf, syg, syh, reduceCtorEq, F64_L0, e5, e1, e0, hlen, Int.ofNat_lt, hlt, decide_true]
    refine draw64_0 (fun _ => False) ?_
    have hgd : Grow w2 w2.drew := (Keep.refl _ _).drew
    generalize w2.drew = w3 at hgd ⊢
    have hg3 := hg2.trans hgd
    obtain ⟨b, o, u, hia, hc0, _, _⟩ := (hp.grow hg3).parts hlt
    by_cases h0 : ps[i].1 < 0
    · simp (maxSteps := 1000000) (disch := omega) only [↓sy1, sy2, sy3, readOK, sy5, sy6, Nat.reduceEqDiff, ↓reduceIte, sy7, sy8, sy9, sya, oneOf, syb, syc, Nat.reduceAdd, Nat.reduceMul, syd, sye, syf, syg, syh, reduceCtorEq, PL64_0, e5, e1, e0, hia, hc0, h0, decide_true, false_implies]
      exact ⟨Keep.refl _ _, hbadR hg3 ⟨_, List.getElem_mem hlt, .inl h0⟩⟩
    · simp (maxSteps := 1000000) (disch := omega) only [↓sy1, sy2, sy3, readOK, sy5, sy6, Nat.reduceEqDiff, ↓reduceIte, sy7, sy8, sy9, sya, oneOf, syb, syc, Nat.reduceAdd, Nat.reduceMul, syd, sye, syf, syg, syh, reduceCtorEq, PL64_0, e5, e1, e0, hia, hc0, h0, decide_false, false_implies]
      refine call0 (rpages_spec (h.grow hg3)) ?_
      rintro _ w4 ⟨rfl, hg4⟩
      by_cases h1 : ((D.first.length - size - 1 : Nat) : Int) ≤ ps[i].1
      · simp (maxSteps := 1000000) (disch := omega) only [↓sy1, sy2, sy3, readOK, sy5, sy6, Nat.reduceEqDiff, ↓reduceIte, sy7, sy8, sy9, sya, oneOf, syb, syc, Nat.reduceAdd, Nat.reduceMul, syd, sye, syf, syg, syh, reduceCtorEq, e5, e1, e0, h1, decide_true]
        exact ⟨hg4, hbadR (hg3.trans hg4) ⟨_, List.getElem_mem hlt, .inr h1⟩⟩
      · simp (maxSteps := 1000000) (disch := omega) only [↓sy1, sy2, sy3, readOK, sy5, sy6, Nat.reduceEqDiff, ↓reduceIte, sy7, sy8, sy9, sya, oneOf, syb, syc, Nat.reduceAdd, Nat.reduceMul, syd, sye, syf, syg, syh, reduceCtorEq, e5, e1, e0, h1, decide_false]
        refine ⟨hg4, R_out ⟨⟨i + 1, by omega, rfl, fun j hj hji => ?_, hg3.trans hg4⟩, ?_⟩⟩
        · by_cases hj' : j = i
          · subst hj'; simp only [outOf]; omega
          · exact hgood j hj (by omega)
        · simp only [intOf]; omega
  have hie : i = ps.length := by omega
  subst hie
  have hany : ¬ anyOut (D.first.length - size - 1) ps := by
    rintro ⟨p, hp', hop⟩
    obtain ⟨j, hj, rfl⟩ := List.getElem_of_mem hp'
    exact hgood j hj hj hop
  have h0 := anyOut_nonneg hany
  have hcgood : goodP ps → ccode D.first.length size ps = 0 := fun hg => by simp [ccode, hps, hcap, hany, hg]
  have hcbad : ¬ goodP ps → ccode D.first.length size ps = 3 ∧ cdone size D ps = D := fun hg => by simp [cdone, ccode, hps, hcap, hany, hg]
  have hout : ∀ {w' : World}, Grow w1 w' → ¬ goodP ps → R ((Value.int .i64 3) = .int .i64 (ccode D.first.length size ps) ∧ ∃ G', RLogAt G' κ w' q size came (cdone size D ps) ∧ Ext (fun c => c = κ) G w1 G' w') := fun {w'} hgw hbad => by
    obtain ⟨c1, c2⟩ := hcbad hbad
    exact R_out ⟨by rw [c1], G, by rw [c2]; exact h.grow hgw, .grow hgw⟩
  obtain ⟨qs, hq1, hq2, hq3⟩ := toQ (R := fun u l => Held G κ w1 u (bs l)) ps xs hp.2.1 hp.2.2.2
  subst hq2
  have hql : qs.length = ps.length := by rw [← hq1]; simp
  have hqi : ∀ i (hi : i < ps.length), ps[i] = (qs[i]'(by omega)).1 := fun i hi => by subst hq1; simp
  clear hgood hlt hi
  simp (maxSteps := 1000000) (disch := omega) only [↓sy1, sy2, sy3, readOK, sy5, sy6, Nat.reduceEqDiff, ↓reduceIte, sy7, sy8, sy9, sya, oneOf, syb, syc, Nat.reduceAdd, Nat.reduceMul, syd, sye, syf, syg, syh, reduceCtorEq, F64_L0, e5, e1, e0, hlen, show ¬ ((ps.length : Int) < (ps.length : Int)) from by omega, decide_false]
  refine loop_rule (fun e w' => ∃ (i : Nat) (srt : List Qg), i ≤ ps.length ∧ e 7 = .int .i64 i ∧ e 1 = v ∧ e 0 = .pointer (some ⟨q, 0, none⟩) ∧ w'.ownsRow w2.heap.size 105 2 (e 6) srt.length (cellsQ srt) ∧ riseQ srt ∧ srt.Perm (qs.take i) ∧
      (∀ j (hj : j < ps.length), j < i → ps[j].2.length = 512) ∧ Grow w2 w') (fun e _ => ps.length - (intOf (e 7)).toNat)
    ⟨0, [], by omega, by simp [upd, updO, ev], by simp [upd, updO, ev, e1], by simp [upd, updO, ev, e0], by simpa [upd, updO, ev] using (show w2.ownsRow w2.heap.size 105 2 (.slice none 0 0) ([] : List Qg).length (cellsQ []) from World.ownsRow_nil w2 _ _ _), List.Pairwise.nil, by simp, fun j _ hj => by omega, Keep.refl _ _⟩ ?_
  clear e5 e1 e0
  rintro e w3 ⟨i, srt, hi, e7, e1, e0, ho3, hrise, hperm, h512, hg3⟩
  have hgw3 := hg2.trans hg3
  have hsl : srt.length = i := by rw [hperm.length_eq, List.length_take]; omega
  have hheld : ∀ r ∈ srt, Held G κ w1 r.2 (bs r.1.2) := fun r hr => hq3 r (List.mem_of_mem_take (hperm.mem_iff.1 hr))
  by_cases hlt : i < ps.length
  · obtain ⟨b, o, u, hia, hc0, hc1, hu⟩ := (hp.grow hgw3).parts hlt
    have hul : ∀ w', lenF w' 0 u = some (.int .i64 ps[i].2.length) := fun w' => Has.lenB hu.1 w'
    have hu2 : u = (qs[i]'(by omega)).2 := by
      have h1 := (cellsQ_get qs i (by omega)).2
      obtain ⟨_, u', h2, h3⟩ := hp.2.2.2 i hlt
      obtain ⟨b', o', hia', _, hc1'⟩ := Has.atQ (hp.grow hgw3).1 (i := i) (by omega)
      rw [hia] at hia'; cases hia'
      rw [hc1] at hc1'; exact Option.some.inj hc1'
    have hpi : ps[i] = (qs[i]'(by omega)).1 := hqi i hlt
    by_cases hb5 : ¬ (ps[i].2.length = 512)
    · simp (maxSteps := 1000000) (disch := omega) only [↓sy1, sy2, sy3, readOK, sy5, sy6, Nat.reduceEqDiff, ↓reduceIte, sy7, sy8, sy9, sya, oneOf, syb, syc, Nat.reduceAdd, Nat.reduceMul, syd, sye, syf, syg, syh, reduceCtorEq, F64_L2, e7, e1, e0, hlen, Int.ofNat_lt, hlt, decide_true, hia, hc1, hul, show ¬ ((ps[i].2.length : Int) = 512) from by omega, decide_false, Bool.not_false]
      exact hout hgw3 (fun hg => hb5 (hg.2 _ (List.getElem_mem hlt)))
    have hb5 := Decidable.of_not_not hb5
    have hslen : ∀ w', lenF w' 0 (e 6) = some (.int .i64 i) := fun w' => by rw [(Has.own ho3).lenk (by omega), cellsQ_length, hsl, Nat.mul_div_cancel_left _ (by omega)]
    generalize hsv : e 6 = sv at ho3 hslen
    simp (maxSteps := 1000000) (disch := omega) only [↓sy1, sy2, sy3, readOK, sy5, sy6, Nat.reduceEqDiff, ↓reduceIte, sy7, sy8, sy9, sya, oneOf, syb, syc, Nat.reduceAdd, Nat.reduceMul, syd, sye, syf, syg, syh, reduceCtorEq, F64_L2, e7, e1, e0, hsv, hlen, hslen, Int.ofNat_lt, hlt, decide_true, hia, hc1, hul, show ((ps[i].2.length : Int) = 512) = True from by simp [hb5], decide_true, Bool.not_true]
    refine loop_rule (fun e w' => ∃ m : Nat, m ≤ i ∧ e 8 = .int .i64 m ∧ e 7 = .int .i64 i ∧ e 6 = sv ∧ e 1 = v ∧ e 0 = .pointer (some ⟨q, 0, none⟩) ∧ (∀ j (hj : j < srt.length), m ≤ j → ps[i].1 < srt[j].1.1) ∧ Grow w3 w') (fun e _ => (intOf (e 8)).toNat)
      ⟨i, Nat.le_refl _, by simp [upd, updO, ev], by simp [upd, updO, ev, e7], by simp [upd, updO, ev, hsv], by simp [upd, updO, ev, e1], by simp [upd, updO, ev, e0], fun j hj hmj => by omega, Keep.refl _ _⟩ ?_
    clear e7 e1 e0 hsv
    rintro e w4 ⟨m, hm, e8, e7, e6, e1, e0, habove, hg4⟩
    have hgw4 := hgw3.trans hg4
    have hsm : ∀ {w'}, Grow w4 w' → Has 2 w' sv (cellsQ srt) := fun hg => (Has.own ho3).grow (hg4.trans hg)
    have hpa : ∀ {w'}, Grow w4 w' → ∃ b o, iaF 2 v (.int .i64 i) = some (.pointer (some ⟨b, o, none⟩)) ∧ w'.cell? ⟨b, o, none⟩ = some (.int .i64 ps[i].1) := fun hg => by
      obtain ⟨b, o, _, h1, h2, _⟩ := (hp.grow (hgw4.trans hg)).parts hlt
      exact ⟨b, o, h1, h2⟩
    have hsr : ∀ (h : 0 < m) {w' : World}, Grow w4 w' → ∃ b o, iaF 2 sv (.int .i64 ((m : Int) - 1)) = some (.pointer (some ⟨b, o, none⟩)) ∧ w'.cell? ⟨b, o, none⟩ = some (.int .i64 (srt[m - 1]'(by omega)).1.1) := fun h {w'} hg => by
      obtain ⟨b, o, h1, h2, _⟩ := (hsm hg).atQ (i := m - 1) (by omega)
      rw [show ((m - 1 : Nat) : Int) = (m : Int) - 1 from by omega] at h1
      exact ⟨b, o, h1, h2⟩
    simp (maxSteps := 1000000) (disch := omega) only [↓sy1, sy2, sy3, readOK, sy5, sy6, Nat.reduceEqDiff, ↓reduceIte, sy7, sy8, sy9, sya, oneOf, syb, syc, Nat.reduceAdd, Nat.reduceMul, syd, sye, syf, syg, syh, reduceCtorEq, F64_L1]
    refine draw64_1 (fun _ => False) ?_
    have hgd : Grow w4 w4.drew := (Keep.refl _ _).drew
    generalize w4.drew = w5 at hgd ⊢
    obtain ⟨bp, op, hpia, hpc⟩ := hpa hgd
    by_cases hB : ∃ h : 0 < m, ps[i].1 < (srt[m - 1]'(by omega)).1.1
    · obtain ⟨hm0, hB⟩ := hB
      obtain ⟨bs', os', hsia, hsc⟩ := hsr hm0 hgd
      simp (maxSteps := 1000000) (disch := omega) only [↓sy1, sy2, sy3, readOK, sy5, sy6, Nat.reduceEqDiff, ↓reduceIte, sy7, sy8, sy9, sya, oneOf, syb, syc, Nat.reduceAdd, Nat.reduceMul, syd, sye, syf, syg, syh, reduceCtorEq, PL64_1, e8, e7, e6, e1, e0, show ((0 : Int) < (m : Int)) from by omega, hsia, hsc, hpia, hpc, hB, decide_true]
      refine R_out ⟨⟨m - 1, by omega, by congr 1; omega, fun j hj hmj => ?_, hg4.trans hgd⟩, ?_⟩
      · by_cases hjm : j = m - 1
        · subst hjm; exact hB
        · exact habove j hj (by omega)
      · simp only [intOf]; omega
    by_cases hE : ∃ h : 0 < m, (srt[m - 1]'(by omega)).1.1 = ps[i].1
    · obtain ⟨hm0, hE⟩ := hE
      obtain ⟨bs', os', hsia, hsc⟩ := hsr hm0 hgd
      rw [hE] at hsc
      have hbad : ¬ goodP ps := fun hg => by
        have h1 := hg.1
        have hmem := hperm.mem_iff.1 (List.getElem_mem (show m - 1 < srt.length by omega))
        obtain ⟨k, hk, hke⟩ := List.getElem_of_mem hmem
        rw [List.length_take] at hk
        rw [List.getElem_take] at hke
        have hne := List.pairwise_iff_getElem.1 h1 k i (by simp; omega) (by simpa using hlt) (by omega)
        rw [List.getElem_map, List.getElem_map, hqi k (by omega), hke, hE] at hne
        exact hne rfl
      simp (maxSteps := 1000000) (disch := omega) only [↓sy1, sy2, sy3, readOK, sy5, sy6, Nat.reduceEqDiff, ↓reduceIte, sy7, sy8, sy9, sya, oneOf, syb, syc, Nat.reduceAdd, Nat.reduceMul, syd, sye, syf, syg, syh, reduceCtorEq, PL64_1, e8, e7, e6, e1, e0, show ((0 : Int) < (m : Int)) from by omega, hsia, hsc, hpia, hpc, show ¬ (ps[i].1 < ps[i].1) from by omega, decide_true, decide_false]
      refine draw64_2 (fun _ => False) ?_
      have hgd2 : Grow w5 w5.drew := (Keep.refl _ _).drew
      generalize w5.drew = w6 at hgd2 ⊢
      have hsc6 := hgd2.gcell hsc
      have hpc6 := hgd2.gcell hpc
      simp (maxSteps := 1000000) (disch := omega) only [↓sy1, sy2, sy3, readOK, sy5, sy6, Nat.reduceEqDiff, ↓reduceIte, sy7, sy8, sy9, sya, oneOf, syb, syc, Nat.reduceAdd, Nat.reduceMul, syd, sye, syf, syg, syh, reduceCtorEq, PL64_2, e8, e7, e6, e1, e0, show ((0 : Int) < (m : Int)) from by omega, hsia, hsc6, hpia, hpc6, decide_true]
      exact hout ((hgw4.trans hgd).trans hgd2) hbad
    have hbelow : ∀ j (hj : j < srt.length), j < m → srt[j].1.1 < ps[i].1 := fun j hj hjm => by
      have h1 : ¬ (ps[i].1 < (srt[m - 1]'(by omega)).1.1) := fun h => hB ⟨by omega, h⟩
      have h2 : ¬ ((srt[m - 1]'(by omega)).1.1 = ps[i].1) := fun h => hE ⟨by omega, h⟩
      by_cases hj1 : j = m - 1
      · subst hj1; omega
      · have := riseQ_get hrise (i := j) (j := m - 1) (by omega) (by omega); omega
    have hins := riseQ_ins (q := qs[i]'(by omega)) hrise (m := m) (by omega) (fun j hj hjm => by rw [← hpi]; exact hbelow j hj hjm) (fun j hj hjm => by rw [← hpi]; exact habove j hj hjm)
    have hip := ins_perm srt (qs.take i) (qs[i]'(by omega)) m hperm
    rw [← List.take_succ_eq_append_getElem (by omega)] at hip
    have hgd2 : Grow w5 w5.drew := (Keep.refl _ _).drew
    have hsl2 := (Has.own ho3).slcToK (m := m) (by rw [cellsQ_length]; omega) (by omega)
    have hsl3 := (Has.own ho3).slcFromK (m := m) (by rw [cellsQ_length]; omega) (by omega)
    rw [cellsQ_take srt m (by omega)] at hsl2
    rw [cellsQ_drop srt m (by omega)] at hsl3
    obtain ⟨v1, hv1, hH1⟩ := hsl2
    obtain ⟨v2, hv2, hH2⟩ := hsl3
    have hqc : isCell (qs[i]'(by omega)).2 = true := (hq3 _ (List.getElem_mem (by omega))).1.isCell
    have hcc : ∀ l : List Qg, (∀ r ∈ l, r ∈ srt) → ∀ u ∈ cellsQ l, isCell u = true := fun l hs => cellsQ_cell (fun r hr => hheld r (hs r hr))
    have hsv : ∀ b, sv.ownBlock = some b → b < w3.heap.size := fun b hb => (World.ownsRow.lt ho3 b hb).2
    by_cases hmz : m = 0
    all_goals first
      | (simp (maxSteps := 1000000) (disch := omega) only [↓sy1, sy2, sy3, readOK, sy5, sy6, Nat.reduceEqDiff, ↓reduceIte, sy7, sy8, sy9, sya, oneOf, syb, syc, Nat.reduceAdd, Nat.reduceMul, syd, sye, syf, syg, syh, reduceCtorEq, PL64_1, e8, e7, e6, e1, e0, show ¬ ((0 : Int) < (m : Int)) from by omega, decide_false, false_implies])
      | (obtain ⟨bs', os', hsia, hsc⟩ := hsr (by omega) hgd
         have hnb : ¬ (ps[i].1 < (srt[m - 1]'(by omega)).1.1) := fun h => hB ⟨by omega, h⟩
         simp (maxSteps := 1000000) (disch := omega) only [↓sy1, sy2, sy3, readOK, sy5, sy6, Nat.reduceEqDiff, ↓reduceIte, sy7, sy8, sy9, sya, oneOf, syb, syc, Nat.reduceAdd, Nat.reduceMul, syd, sye, syf, syg, syh, reduceCtorEq, PL64_1, e8, e7, e6, e1, e0, show ((0 : Int) < (m : Int)) from by omega, hsia, hsc, hpia, hpc, hnb, decide_true, decide_false])
    all_goals
      refine draw64_2 (fun _ => False) ?_
      have hgd2 : Grow w5 w5.drew := (Keep.refl _ _).drew
      generalize w5.drew = w6 at hgd2 ⊢
    all_goals first
      | (simp (maxSteps := 1000000) (disch := omega) only [↓sy1, sy2, sy3, readOK, sy5, sy6, Nat.reduceEqDiff, ↓reduceIte, sy7, sy8, sy9, sya, oneOf, syb, syc, Nat.reduceAdd, Nat.reduceMul, syd, sye, syf, syg, syh, reduceCtorEq, PL64_2, e8, e7, e6, e1, e0, show ¬ ((0 : Int) < (m : Int)) from by omega, decide_false, false_implies, hv1])
      | (have hsc6 := hgd2.gcell hsc
         have hpc6 := hgd2.gcell hpc
         have hne : ¬ ((srt[m - 1]'(by omega)).1.1 = ps[i].1) := fun h => hE ⟨by omega, h⟩
         simp (maxSteps := 1000000) (disch := omega) only [↓sy1, sy2, sy3, readOK, sy5, sy6, Nat.reduceEqDiff, ↓reduceIte, sy7, sy8, sy9, sya, oneOf, syb, syc, Nat.reduceAdd, Nat.reduceMul, syd, sye, syf, syg, syh, reduceCtorEq, PL64_2, e8, e7, e6, e1, e0, show ((0 : Int) < (m : Int)) from by omega, hsia, hsc6, hpia, hpc6, hne, decide_true, decide_false, hv1])
    all_goals
      have hgw6 := (hgw4.trans hgd).trans hgd2
      have hg36 : Grow w3 w6 := (hg4.trans hgd).trans hgd2
      have hs36 := hg36.size
      refine app_own elemPg (by simp only [upd_at, Nat.reduceEqDiff, reduceIte, ev_tmp, ev_const, List.map_cons, List.map_nil]) (by simp only [upd_at, Nat.reduceEqDiff, reduceIte, ev_tmp, ev_const, List.map_cons, List.map_nil]) (World.ownsRow_nil w6 w6.heap.size _ 2) (hH1.grow hg36) (m := m) (by rw [cellsQ_length, List.length_take]; omega) (hcc _ (fun r hr => List.mem_of_mem_take hr)) (by omega) (by omega) (Nat.le_refl _) ?_
      intro x7 w7 ho7 hgr7
      have hk7 := Keep.grown hgr7
      have hg67 : Grow w6 w7 := hk7.mono (fun b hb h => by cases h)
      rw [List.nil_append, Nat.zero_add] at ho7
      obtain ⟨b7, o7, u7, hia7, hld7c, hld7d, _⟩ := (hp.grow (hgw6.trans hg67)).parts hlt
      have hu7 : u7 = (qs[i]'(by omega)).2 := by
        obtain ⟨b', o', hia', _, hc1'⟩ := Has.atQ (hp.grow (hgw6.trans hg67)).1 (i := i) (by omega)
        rw [hia7] at hia'; cases hia'
        rw [hld7d] at hc1'; exact Option.some.inj hc1'
      rw [hu7] at hld7d
      rw [hpi] at hld7c
      simp (maxSteps := 1000000) (disch := omega) only [↓sy1, sy2, sy3, readOK, sy5, sy6, Nat.reduceEqDiff, ↓reduceIte, sy7, sy8, sy9, sya, oneOf, syb, syc, Nat.reduceAdd, Nat.reduceMul, syd, sye, syf, syg, syh, reduceCtorEq, e8, e7, e6, e1, e0, hia7, loadN2 hld7c hld7d, fill_gen, fill_of2, fillF_p (a := .int .i64 0) (b := .slice none 0 0)]
      have hgap : Grow w7 (w7.alloc (.cells #[.int .i64 (qs[i]'(by omega)).1.1, (qs[i]'(by omega)).2] 105)) := (Keep.refl _ _).alloc _
      refine app_own elemPg (by simp only [upd_at, Nat.reduceEqDiff, reduceIte, ev_tmp, ev_const, List.map_cons, List.map_nil]) (by simp only [upd_at, Nat.reduceEqDiff, reduceIte, ev_tmp, ev_const, List.map_cons, List.map_nil]) (own_keepk ho7 hgap (fun _ _ => id)) Has.newp (m := 1) rfl (by simpa [isCell] using hqc) (by omega) (by omega) (by have := hg67.size; have := hgap.size; omega) ?_
      intro x8 w8 ho8 hgr8
      have hk8 : Keep (fun b => some b = x7.ownBlock) w7 w8 := (Keep.grow hgap).trans (Keep.grown hgr8)
      have hg68 : Grow w6 w8 := hg67.then hk8 (fun b hb h => by have := (World.ownsRow.lt ho7 b h.symm).1; omega)
      have hH28 : Has 2 w8 v2 (cellsQ (srt.drop m)) := hH2.grow (hg36.trans hg68)
      simp (maxSteps := 1000000) (disch := omega) only [↓sy1, sy2, sy3, readOK, sy5, sy6, Nat.reduceEqDiff, ↓reduceIte, sy7, sy8, sy9, sya, oneOf, syb, syc, Nat.reduceAdd, Nat.reduceMul, syd, sye, syf, syg, syh, reduceCtorEq, e8, e7, e6, e1, e0, hv2]
      refine app_own elemPg (by simp only [upd_at, Nat.reduceEqDiff, reduceIte, ev_tmp, ev_const, List.map_cons, List.map_nil]) (by simp only [upd_at, Nat.reduceEqDiff, reduceIte, ev_tmp, ev_const, List.map_cons, List.map_nil]) ho8 hH28 (m := i - m) (by rw [cellsQ_length, List.length_drop]; omega) (hcc _ (fun r hr => List.mem_of_mem_drop hr)) (by omega) (by omega) (by have := hg68.size; omega) ?_
      intro x9 w9 ho9 hgr9
      have hk9 : Keep (fun b => some b = x8.ownBlock) w8 w9 := Keep.grown hgr9
      have hg69 : Grow w6 w9 := hg68.then hk9 (fun b hb h => by have := (World.ownsRow.lt ho8 b h.symm).1; omega)
      simp (maxSteps := 1000000) (disch := omega) only [↓sy1, sy2, sy3, readOK, sy5, sy6, Nat.reduceEqDiff, ↓reduceIte, sy7, sy8, sy9, sya, oneOf, syb, syc, Nat.reduceAdd, Nat.reduceMul, syd, sye, syf, syg, syh, reduceCtorEq, e8, e7, e6, e1, e0]
      have hcells : cellsQ (srt.take m) ++ [.int .i64 (qs[i]'(by omega)).1.1, (qs[i]'(by omega)).2] ++ cellsQ (srt.drop m) = cellsQ (srt.take m ++ [qs[i]'(by omega)] ++ srt.drop m) := by
        rw [cellsQ_append, cellsQ_append]; rfl
      rw [hcells] at ho9
      refine R_out ⟨⟨i + 1, srt.take m ++ [qs[i]'(by omega)] ++ srt.drop m, by omega, rfl, ?_, hins, hip, fun j hj hji => ?_, hg3.trans (hg36.trans hg69)⟩, ?_⟩
      · have hln : (srt.take m ++ [qs[i]'(by omega)] ++ srt.drop m).length = m + 1 + (i - m) := by simp; omega
        rw [hln]
        exact own_basek ho9 (by have := hg3.size; omega)
      · by_cases hji' : j = i
        · subst hji'; exact hb5
        · exact h512 j hj (by omega)
      · simp only [intOf]; omega
  · have hie : i = ps.length := by omega
    subst hie
    rw [List.take_of_length_le (by omega)] at hperm
    have hmapq : ps.map (·.1) = qs.map (·.1.1) := by rw [← hq1, List.map_map]; rfl
    have hnd : (ps.map (·.1)).Nodup := by
      rw [hmapq]
      refine (hperm.map (·.1.1)).nodup_iff.1 ?_
      exact List.Pairwise.imp (fun h => by omega) hrise
    have hgood : goodP ps := ⟨hnd, fun p hp' => by
      obtain ⟨j, hj, rfl⟩ := List.getElem_of_mem hp'
      exact h512 j hj hj⟩
    have hmem : ∀ r ∈ srt, r.1 ∈ ps := fun r hr => by rw [← hq1]; exact List.mem_map.2 ⟨r, hperm.mem_iff.1 hr, rfl⟩
    have hSP : srt.map (fun r => (r.1.1.toNat, r.1.2)) = sortP ps := by
      refine sortP_unique hnd h0 ?_ (fun n b => ?_)
      · rw [List.map_map, List.pairwise_map]
        have hr := hrise
        unfold riseQ at hr
        rw [List.pairwise_map] at hr
        refine hr.imp_of_mem (fun {a b} ha hb hab => ?_)
        have h1 := h0 _ (hmem a ha)
        have h2 := h0 _ (hmem b hb)
        simp only [Function.comp]; omega
      · simp only [List.mem_map, Prod.mk.injEq]
        constructor
        · rintro ⟨r, hr, rfl, rfl⟩
          have h1 := h0 _ (hmem r hr)
          rw [show ((r.1.1.toNat : Nat) : Int) = r.1.1 from by omega]
          exact hmem r hr
        · intro hm
          rw [← hq1] at hm
          obtain ⟨r, hr, hre⟩ := List.mem_map.1 hm
          exact ⟨r, hperm.mem_iff.2 hr, by rw [hre]; simp, by rw [hre]⟩
    have hcc := hcgood hgood
    have hcd : cdone size D ps = grouped size D (sortP ps) := by simp [cdone, hps, hcc]
    rw [hcc, hcd]
    have hκ := h.1
    have hx3 : Ext (fun c => c = κ) G w1 (G.new w1.heap.size) w3 := .newB hgw3
    have hlog3 : RLogAt (G.new w1.heap.size) κ w3 q size came D := h.ext (K := fun _ => False) (.newB hgw3) id id
    have hh3 : ∀ r ∈ srt, Held (G.new w1.heap.size) κ w3 r.2 (bs r.1.2) := fun r hr => (hheld r hr).ext hx3
    have hsown : ∀ b, (e 6).ownBlock = some b → b < w3.heap.size ∧ (G.new w1.heap.size).own b ≠ κ := fun b hb => by
      obtain ⟨h1, h2⟩ := World.ownsRow.lt ho3 b hb
      exact ⟨h2, by rw [Gh.new_own (by have := hg2.size; omega)]; exact fun h => hκ h.symm⟩
    have hsH := Has.own ho3
    generalize e6 : e 6 = sv at hsown hsH
    have hslen : ∀ w', lenF w' 0 sv = some (.int .i64 ps.length) := fun w' => by rw [hsH.lenk (by omega), cellsQ_length, hsl, Nat.mul_div_cancel_left _ (by omega)]
    generalize G.new w1.heap.size = G3 at hx3 hlog3 hh3 hsown
    have hspl := sortP_length ps
    have hspi : ∀ i (hi : i < (sortP ps).length), (sortP ps)[i] = ((srt[i]'(by omega)).1.1.toNat, (srt[i]'(by omega)).1.2) := fun i hi => by
      have : ∀ (l : List (Nat × List UInt8)) (hl : i < l.length), l = sortP ps → l[i] = (sortP ps)[i] := fun l hl he => by subst he; rfl
      rw [← this _ (by rw [List.length_map]; omega) hSP, List.getElem_map]
    simp (maxSteps := 1000000) (disch := omega) only [↓sy1, sy2, sy3, readOK, sy5, sy6, Nat.reduceEqDiff, ↓reduceIte, sy7, sy8, sy9, sya, oneOf, syb, syc, Nat.reduceAdd, Nat.reduceMul, syd, sye, syf, syg, syh, reduceCtorEq, F64_L2, e7, e1, e0, e6, hlen, show ¬ ((ps.length : Int) < (ps.length : Int)) from by omega, decide_false]
    have hqb := sortP_bytes h0 hgood.2
    have hql2 := sortP_lt (pages := D.first.length - size - 1) h0 hany
    refine loop_rule (fun e w' => ∃ (i : Nat) (G' : Gh) (nv : Value), i ≤ ps.length ∧ e 11 = .int .i64 i ∧ e 10 = nv ∧ e 6 = sv ∧ e 0 = .pointer (some ⟨q, 0, none⟩) ∧
        RLogAt G' κ w' q size came (adds D (copyOps 0 ((sortP ps).take i))) ∧ w'.ownsRow w3.heap.size 3 1 nv i (ints (zs (((sortP ps).take i).map (·.1)))) ∧ (∀ b, nv.ownBlock = some b → G'.own b = κ + 1 ∧ G'.fix b = 0) ∧ Ext (fun c => c = κ) G3 w3 G' w') (fun e _ => ps.length - (intOf (e 11)).toNat)
      ⟨0, G3, .slice none 0 0, by omega, by simp [upd, updO, ev], by simp [upd, updO, ev], by simp [upd, updO, ev, e6], by simp [upd, updO, ev, e0], hlog3, World.ownsRow_nil w3 _ _ _, fun b hb => by simp [Value.ownBlock] at hb, .refl _ _ _⟩ ?_
    clear e7 e1 e0 e6 ho3
    rintro e w4 ⟨i, G4, nv, hi4, e11, e10, e6, e0, hlog4, hn4, hno4, hx4⟩
    have hsH4 : ∀ {w'}, Grow w4 w' → Has 2 w' sv (cellsQ srt) := fun hg => (hsH.keep hx4.keep (fun b hb _ => (hsown b hb).2)).grow hg
    obtain ⟨_, _, _, ho4, p, hq4, hd4⟩ := id hlog4
    have hqp : ∀ {w'}, Grow w4 w' → w'.cell? ⟨q, 0, none⟩ = some (.pointer (some ⟨p, 0, none⟩)) := fun hg => by rw [cell_block (hg.gheap hq4)]; rfl
    have hf : (adds D (copyOps 0 ((sortP ps).take i))).first = D.first := adds_first _ _
    have hops : (adds D (copyOps 0 ((sortP ps).take i))).ops.length ≤ D.ops.length + i := by
      rw [adds_ops, List.length_append, copyOps_length]; simp; omega
    by_cases hlt4 : i < ps.length
    · have hltp : i < (sortP ps).length := by omega
      have hlts : i < srt.length := by omega
      simp (maxSteps := 1000000) (disch := omega) only [↓sy1, sy2, sy3, readOK, sy5, sy6, Nat.reduceEqDiff, ↓reduceIte, sy7, sy8, sy9, sya, oneOf, syb, syc, Nat.reduceAdd, Nat.reduceMul, syd, sye, syf, syg, syh, reduceCtorEq, F64_L3, e11, e10, e6, e0, hslen, Int.ofNat_lt, hlt4, decide_true]
      refine draw64_3 (fun _ => False) ?_
      have hgd : Grow w4 w4.drew := (Keep.refl _ _).drew
      generalize w4.drew = w5 at hgd ⊢
      obtain ⟨b5, o5, hia5, hc50, hc51⟩ := (hsH4 hgd).atQ hlts
      have hu5 : HasB w5 srt[i].2 srt[i].1.2 := ((hh3 _ (List.getElem_mem hlts)).ext hx4).1.grow hgd
      have hb5 : srt[i].1.2.length = 512 := hgood.2 _ (hmem _ (List.getElem_mem hlts))
      simp (maxSteps := 1000000) (disch := omega) only [↓sy1, sy2, sy3, readOK, sy5, sy6, Nat.reduceEqDiff, ↓reduceIte, sy7, sy8, sy9, sya, oneOf, syb, syc, Nat.reduceAdd, Nat.reduceMul, syd, sye, syf, syg, syh, reduceCtorEq, PL64_3, e11, e10, e6, e0, hqp hgd, hia5, hc51]
      rw [show (1 : Int) + (i : Int) = ((1 + i : Nat) : Int) from by omega]
      refine call0 (rwrite_spec (hd4.grow hgd) (n := 1 + i) (by rw [hf]; omega) hb5 hu5 (by omega)) ?_
      rintro _ w6 ⟨rfl, G6, hd6, hx6⟩
      have hx46 : Ext (fun c => c = κ) G4 w4 G6 w6 := (Ext.grow hgd).trans hx6
      have hlog6 := hlog4.put (E := (adds D (copyOps 0 ((sortP ps).take i))).add (.wr (1 + i) srt[i].1.2)) (hqp (Keep.refl _ _)) hx46 rfl hd6
      have hx36 := hx4.trans hx46
      have hn6 : w6.ownsRow w3.heap.size 3 1 nv i (ints (zs (((sortP ps).take i).map (·.1)))) := own_keep hn4 hx46.keep (fun b hb h => by rw [(hno4 b hb).1] at h; omega)
      have hno6 : ∀ b, nv.ownBlock = some b → G6.own b = κ + 1 ∧ G6.fix b = 0 := fun b hb => by
        have hbl := (World.ownsRow.lt hn4 b hb).2
        rw [hx46.own b hbl, hx46.fixe b hbl (by rw [(hno4 b hb).1]; omega)]
        exact hno4 b hb
      obtain ⟨b6, o6, hia6, hc60, _⟩ := (hsH.keep hx36.keep (fun b hb _ => (hsown b hb).2)).atQ hlts
      simp (maxSteps := 1000000) (disch := omega) only [↓sy1, sy2, sy3, readOK, sy5, sy6, Nat.reduceEqDiff, ↓reduceIte, sy7, sy8, sy9, sya, oneOf, syb, syc, Nat.reduceAdd, Nat.reduceMul, syd, sye, syf, syg, syh, reduceCtorEq, e11, e10, e6, e0, hia6, hc60]
      have hga : Grow w6 (w6.alloc (.cells #[.int .i64 srt[i].1.1] 3)) := (Keep.refl _ _).alloc _
      have hsa : (w6.alloc (.cells #[.int .i64 srt[i].1.1] 3)).heap.size = w6.heap.size + 1 := by simp
      have hs36 := hx36.size
      refine app_own2 elemI (by simp only [upd_at, Nat.reduceEqDiff, reduceIte, ev_tmp, ev_const, List.map_cons, List.map_nil, e10]) (by simp only [upd_at, Nat.reduceEqDiff, reduceIte, ev_tmp, ev_const, List.map_cons, List.map_nil]) (own_grow hn6 hga) Has.new1 (m := 1) rfl (by simp [isCell]) (by omega) (by omega) (by omega) ?_
      intro nv' w7 ho7 hg7 hb7
      have hk7 : Keep (fun b => some b = nv.ownBlock) w6 w7 := (Keep.grow hga).trans (Keep.grown hg7)
      simp (maxSteps := 1000000) (disch := omega) only [↓sy1, sy2, sy3, readOK, sy5, sy6, Nat.reduceEqDiff, ↓reduceIte, sy7, sy8, sy9, sya, oneOf, syb, syc, Nat.reduceAdd, Nat.reduceMul, syd, sye, syf, syg, syh, reduceCtorEq, e11, e10, e6, e0]
      have hx67 : Ext (fun c => c = κ + 1) G6 w6 (G6.upto w6.heap.size (fun _ => κ + 1) (fun _ => 0)) w7 := .app hk7 hno6
      have hx37 : Ext (fun c => c = κ) G3 w3 (G6.upto w6.heap.size (fun _ => κ + 1) (fun _ => 0)) w7 := hx36.past hk7 (fun b hb => (World.ownsRow.lt hn6 b hb).1)
      have hstep : adds D (copyOps 0 ((sortP ps).take (i + 1))) = (adds D (copyOps 0 ((sortP ps).take i))).add (.wr (1 + i) srt[i].1.2) := by
        rw [copyOps_take _ 0 i hltp, adds_snoc, show 1 + 0 + i = 1 + i from by omega, hspi i hltp]
      have hnum : ints (zs (((sortP ps).take (i + 1)).map (·.1))) = ints (zs (((sortP ps).take i).map (·.1))) ++ [.int .i64 srt[i].1.1] := by
        have h1 := h0 _ (hmem _ (List.getElem_mem hlts))
        rw [List.take_succ_eq_append_getElem hltp, List.map_append, zs, List.map_append, ints, List.map_append, hspi i hltp]
        simp only [List.map_cons, List.map_nil, ints, zs]
        rw [show ((srt[i].1.1.toNat : Nat) : Int) = srt[i].1.1 from by omega]
      refine R_out ⟨⟨i + 1, _, nv', by omega, rfl, rfl, by rw [hstep]; exact hlog6.ext hx67 (by omega) (by omega), by rw [hnum]; exact ho7, fun b hb => ?_, hx37⟩, ?_⟩
      · rcases hb7 with hb7 | hb7
        · rw [hb7] at hb
          have hbl := (World.ownsRow.lt hn6 b hb).2
          rw [hx67.own b hbl, show (G6.upto w6.heap.size (fun _ => κ + 1) (fun _ => 0)).fix b = G6.fix b from by simp [Gh.upto, hbl]]
          exact hno6 b hb
        · rw [hb7, hsa] at hb
          simp only [Option.some.injEq] at hb
          subst hb
          simp [Gh.upto, show ¬ (w6.heap.size + 1 < w6.heap.size) from by omega]
      · simp only [intOf]; omega
    · have hie4 : i = ps.length := by omega
      subst hie4
      have htk : (sortP ps).take ps.length = sortP ps := List.take_of_length_le (by omega)
      rw [htk] at hlog4 hd4 hops hf hn4
      have hnlen := (World.ownsRow.lt hn4)
      simp (maxSteps := 1000000) (disch := omega) only [↓sy1, sy2, sy3, readOK, sy5, sy6, Nat.reduceEqDiff, ↓reduceIte, sy7, sy8, sy9, sya, oneOf, syb, syc, Nat.reduceAdd, Nat.reduceMul, syd, sye, syf, syg, syh, reduceCtorEq, F64_L3, e11, e10, e6, e0, hslen, show ¬ ((ps.length : Int) < (ps.length : Int)) from by omega, decide_false, hqp (Keep.refl _ _)]
      refine call0 (rflush_spec hd4 (by omega)) ?_
      rintro _ w8 ⟨rfl, G8, hd8, hx8⟩
      have hlog8 := hlog4.put (E := (adds D (copyOps 0 (sortP ps))).add .fl) (hqp (Keep.refl _ _)) hx8 rfl hd8
      have hnH : Held G4 κ w4 nv (ints (zs ((sortP ps).map (·.1)))) := ⟨Has.own hn4, fun b hb _ => ⟨(hnlen b hb).2, by rw [(hno4 b hb).1]; omega⟩⟩
      simp (maxSteps := 1000000) (disch := omega) only [↓sy1, sy2, sy3, readOK, sy5, sy6, Nat.reduceEqDiff, ↓reduceIte, sy7, sy8, sy9, sya, oneOf, syb, syc, Nat.reduceAdd, Nat.reduceMul, syd, sye, syf, syg, syh, reduceCtorEq, e10, e6, e0]
      refine call0 (rsetHead_spec hlog8 (hnH.ext hx8).1 (by rw [List.length_map]; omega) (by simp [Dsk.add]; omega)) ?_
      rintro _ w9 ⟨G9, hlog9, hx9⟩
      simp (maxSteps := 1000000) (disch := omega) only [↓sy1, sy2, sy3, readOK, sy5, sy6, Nat.reduceEqDiff, ↓reduceIte, sy7, sy8, sy9, sya, oneOf, syb, syc, Nat.reduceAdd, Nat.reduceMul, syd, sye, syf, syg, syh, reduceCtorEq, e10, e6, e0]
      refine call0 (rhome_spec hlog9 ((hnH.ext hx8).ext hx9) (by omega) (fun p hp => ⟨hqb p hp, ?_⟩) (fun i hi => ?_) (by simp [Dsk.add]; omega)) ?_
      · have := hql2 p hp
        simp only [Dsk.add, hf]; omega
      · rw [Dsk.image_fl, Dsk.image_wr, Dsk.image_fl, List.getElem?_set_ne (by omega)]
        have := image_copied (sortP ps) 0 D i hi (by omega)
        rw [show 1 + 0 + i = 1 + i from by omega] at this
        exact this
      rintro _ w10 ⟨G10, hlog10, hx10⟩
      simp (maxSteps := 1000000) (disch := omega) only [↓sy1, sy2, sy3, readOK, sy5, sy6, Nat.reduceEqDiff, ↓reduceIte, sy7, sy8, sy9, sya, oneOf, syb, syc, Nat.reduceAdd, Nat.reduceMul, syd, sye, syf, syg, syh, reduceCtorEq]
      have hgr : grouped size D (sortP ps) = homed size ((((adds D (copyOps 0 (sortP ps))).add .fl).add (.wr 0 (headB ((sortP ps).map (·.1))))).add .fl) (sortP ps) := by rw [grouped_eq, homed]
      exact R_out ⟨G10, by rw [hgr]; exact hlog10, hx3.trans ((hx4.trans hx8).trans (hx9.trans hx10))⟩
end Go.Proofs.YtgmodahpcpepjaaGreat

/- The reference's cache in memory; a list without a number; a page's place. -/
namespace Go.Proofs.YtgmodahpcpepjaaGreat
open Go
set_option linter.unusedSimpArgs false
open Go.RowKit (intOf)
/-- Pages in nobody's blocks. -/
def PagesZ (G : Gh) (w : World) (v : Value) (ps : List Pg) : Prop :=
  ∃ xs, Has 2 w v xs ∧ (∀ b, v.ownBlock = some b → xs ≠ [] → b < w.heap.size ∧ G.own b = 0) ∧ xs.length = 2 * ps.length ∧
  ∀ i (h : i < ps.length), xs[2 * i]? = some (.int .i64 ps[i].1) ∧ ∃ u, xs[2 * i + 1]? = some u ∧ Zero G w u (bs ps[i].2)
theorem PagesZ.ext {K : Nat → Prop} {G G' : Gh} {w w' : World} {v : Value} {ps : List Pg} (h : PagesZ G w v ps) (hx : Ext K G w G' w') (h0 : ¬ K 0) : PagesZ G' w' v ps := by
  obtain ⟨xs, h1, h2, h3, h4⟩ := h
  refine ⟨xs, h1.keep hx.keep (fun b hb hne => by rw [(h2 b hb hne).2]; exact h0), fun b hb hne => ?_, h3, fun i hi => ?_⟩
  · obtain ⟨h5, h6⟩ := h2 b hb hne
    exact ⟨Nat.lt_of_lt_of_le h5 hx.size, by rw [hx.own b h5]; exact h6⟩
  · obtain ⟨h5, u, h6, h7⟩ := h4 i hi
    exact ⟨h5, u, h6, h7.ext hx h0⟩
theorem PagesZ.nil (G : Gh) (w : World) : PagesZ G w (.slice none 0 0) [] := ⟨[], Has.nil 2 w, fun _ _ h => absurd rfl h, rfl, fun i hi => by simp at hi⟩
theorem PagesZ.held {G : Gh} {κ : Nat} {w : World} {v : Value} {ps : List Pg} (h : PagesZ G w v ps) (hκ : κ ≠ 0) : ∃ xs, PagesH G κ w v ps xs := by
  obtain ⟨xs, h1, h2, h3, h4⟩ := h
  refine ⟨xs, h1, h3, fun b hb hp => ?_, fun i hi => ?_⟩
  · obtain ⟨h5, h6⟩ := h2 b hb (fun hx => hp (List.eq_nil_of_length_eq_zero (by rw [hx] at h3; simp at h3; omega)))
    exact ⟨h5, by rw [h6]; exact hκ.symm⟩
  · obtain ⟨h5, u, h6, h7⟩ := h4 i hi
    exact ⟨h5, u, h6, h7.1, fun b hb hne => ⟨(h7.2 b hb hne).1, by rw [(h7.2 b hb hne).2]; exact hκ.symm⟩⟩
theorem PagesZ.len {G : Gh} {w : World} {v : Value} {ps : List Pg} (h : PagesZ G w v ps) (w2 : World) : lenF w2 0 v = some (.int .i64 ps.length) := by
  obtain ⟨xs, h1, _, h3, _⟩ := h
  rw [h1.lenk (by omega), h3, Nat.mul_div_cancel_left _ (by omega)]
theorem PagesZ.parts {G : Gh} {w : World} {v : Value} {ps : List Pg} (h : PagesZ G w v ps) {i : Nat} (hi : i < ps.length) :
    ∃ b o u, iaF 2 v (.int .i64 i) = some (.pointer (some ⟨b, o, none⟩)) ∧ w.cell? ⟨b, o, none⟩ = some (.int .i64 ps[i].1) ∧ w.cell? ⟨b, o + 1, none⟩ = some u ∧ Zero G w u (bs ps[i].2) := by
  obtain ⟨xs, h1, h2, h3, h4⟩ := h
  obtain ⟨b, o, h5, h6, _⟩ := h1.idxk (i := i) (by omega)
  obtain ⟨h7, u, h8, h9⟩ := h4 i hi
  obtain ⟨x, hx, hxc⟩ := h6 0 (by omega)
  obtain ⟨y, hy, hyc⟩ := h6 1 (by omega)
  rw [show i * 2 + 0 = 2 * i from by omega, h7] at hx
  rw [show i * 2 + 1 = 2 * i + 1 from by omega, h8] at hy
  cases hx; cases hy
  exact ⟨b, o, u, h5, hxc, hyc, h9⟩
/-- The reference's cache: its pages in the order in which they were written last. -/
structure RCacheAt (G : Gh) (κ μ : Nat) (w : World) (r rq came : Nat) (c : Csh) (ps : List Pg) : Prop where
  ok : c.Ok
  ne : κ ≠ μ
  ne0 : μ ≠ 0
  grp : c.group ps
  log : RLogAt G κ w rq c.size came c.D
  at_ : ∃ dv rv, w.heap[r]? = some (.cells #[.pointer (some ⟨rq, 0, none⟩), .int .i64 c.most, dv, rv] 46 (0, 0)) ∧ G.own r = μ ∧ G.fix r = 0 ∧ PagesZ G w dv ps ∧ Zero G w rv (ints (zs c.row))
section
variable {G G' : Gh} {κ μ r rq came : Nat} {w w' : World} {c : Csh} {ps : List Pg}
theorem RCacheAt.ext {K : Nat → Prop} (h : RCacheAt G κ μ w r rq came c ps) (hx : Ext K G w G' w') (hk : ¬ K κ) (hm : ¬ K μ) (h0 : ¬ K 0) : RCacheAt G' κ μ w' r rq came c ps := by
  obtain ⟨h1, h2, h3, h4, h5, dv, rv, h6, h7, h8, h9, h10⟩ := h
  have hlt := hx.lt h6
  exact ⟨h1, h2, h3, h4, h5.ext hx hk h0, dv, rv, hx.heap h6 (by rw [h7]; exact hm), by rw [hx.own r hlt]; exact h7, by rw [hx.fixe r hlt (by rw [h7]; exact hm)]; exact h8, h9.ext hx h0, h10.ext hx h0⟩
theorem RCacheAt.grow (h : RCacheAt G κ μ w r rq came c ps) (hg : Grow w w') : RCacheAt G κ μ w' r rq came c ps := h.ext (K := fun _ => False) (.grow hg) id id id
theorem RCacheAt.cells (h : RCacheAt G κ μ w r rq came c ps) : ∃ dv rv, ∀ {w'}, Grow w w' → w'.cell? ⟨r, 0, none⟩ = some (.pointer (some ⟨rq, 0, none⟩)) ∧ w'.cell? ⟨r, 1, none⟩ = some (.int .i64 c.most) ∧ w'.cell? ⟨r, 2, none⟩ = some dv ∧ w'.cell? ⟨r, 3, none⟩ = some rv ∧ PagesZ G w' dv ps ∧ Zero G w' rv (ints (zs c.row)) := by
  obtain ⟨h1, h2, h3, h4, h5, dv, rv, h6, h7, h8, h9, h10⟩ := h
  refine ⟨dv, rv, fun hg => ?_⟩
  have h6' := hg.gheap h6
  exact ⟨by rw [cell_block h6']; rfl, by rw [cell_block h6']; rfl, by rw [cell_block h6']; rfl, by rw [cell_block h6']; rfl, h9.ext (K := fun _ => False) (.grow hg) id, h10.ext (K := fun _ => False) (.grow hg) id⟩
/-- Numbers but one. -/
theorem without_spec {v : Value} {l : List Nat} {n : Nat} (hv : HasI w v (zs l)) (hl : l.length ≤ 1000) :
    Calls Tryz.prog 62 #[v, .int .i64 n] w (Ret fun u w' => w'.ownsRow w.heap.size 3 1 u (l.filter fun k => decide (k ≠ n)).length (ints (zs (l.filter fun k => decide (k ≠ n)))) ∧ Grow w w') := by
  have hlen : ∀ w', lenF w' 0 v = some (.int .i64 l.length) := fun w' => by rw [hv.lenI]; simp
  apply enter62
  apply R_in
  simp (maxSteps := 1000000) (disch := omega) only [↓sy1, sy2, sy3, readOK, sy5, sy6, Nat.reduceEqDiff, ↓reduceIte, sy7, sy8, sy9, sya, oneOf, syb, syc, Nat.reduceAdd, Nat.reduceMul, syd, sye, syf, syg, syh, reduceCtorEq, F62]
  refine loop_rule (fun e w' => ∃ i : Nat, i ≤ l.length ∧ e 6 = .int .i64 i ∧ e 0 = v ∧ e 1 = .int .i64 n ∧ w'.ownsRow w.heap.size 3 1 (e 5) ((l.take i).filter fun k => decide (k ≠ n)).length (ints (zs ((l.take i).filter fun k => decide (k ≠ n)))) ∧ Grow w w') (fun e _ => l.length - (intOf (e 6)).toNat)
    ⟨0, by omega, by simp [upd, updO, ev], by simp [upd, updO, ev], by simp [upd, updO, ev], by simpa [upd, updO, ev, ints, zs] using World.ownsRow_nil w _ _ _, Keep.refl _ _⟩ ?_
  rintro e w1 ⟨i, hi, e6, e0, e1, ho1, hg1⟩
  by_cases hlt : i < l.length
  · obtain ⟨a, ha, hac, _⟩ := (hv.grow hg1).getI (l := zs l) (i := i) (by simpa using hlt)
    have hz : (zs l)[i]'(by simpa using hlt) = ((l[i] : Nat) : Int) := by simp
    rw [hz] at hac
    have htk : l.take (i + 1) = l.take i ++ [l[i]] := List.take_succ_eq_append_getElem hlt
    have hfl := List.length_filter_le (fun k => decide (k ≠ n)) (l.take i)
    rw [List.length_take] at hfl
    by_cases hne : l[i] = n
    · simp (maxSteps := 1000000) (disch := omega) only [↓sy1, sy2, sy3, readOK, sy5, sy6, Nat.reduceEqDiff, ↓reduceIte, sy7, sy8, sy9, sya, oneOf, syb, syc, Nat.reduceAdd, Nat.reduceMul, syd, sye, syf, syg, syh, reduceCtorEq, F62_L0, e6, e0, e1, hlen, Int.ofNat_lt, hlt, decide_true, ha, hac, show ((l[i] : Nat) : Int) = (n : Int) from by omega, Bool.not_true]
      refine R_out ⟨⟨i + 1, by omega, rfl, ?_, hg1⟩, by simp only [intOf]; omega⟩
      rw [htk, List.filter_append, show [l[i]].filter (fun k => decide (k ≠ n)) = [] from by simp [hne], List.append_nil]
      exact ho1
    · simp (maxSteps := 1000000) (disch := omega) only [↓sy1, sy2, sy3, readOK, sy5, sy6, Nat.reduceEqDiff, ↓reduceIte, sy7, sy8, sy9, sya, oneOf, syb, syc, Nat.reduceAdd, Nat.reduceMul, syd, sye, syf, syg, syh, reduceCtorEq, F62_L0, e6, e0, e1, hlen, Int.ofNat_lt, hlt, decide_true, ha, hac, show ¬ (((l[i] : Nat) : Int) = (n : Int)) from by omega, decide_false, Bool.not_false]
      have hga : Grow w1 (w1.alloc (.cells #[.int .i64 (l[i] : Nat)] 3)) := (Keep.refl _ _).alloc _
      refine app_own elemI (by simp only [upd_at, Nat.reduceEqDiff, reduceIte, ev_tmp, ev_const, List.map_cons, List.map_nil]) (by simp only [upd_at, Nat.reduceEqDiff, reduceIte, ev_tmp, ev_const, List.map_cons, List.map_nil]) (own_grow ho1 hga) Has.new1 (m := 1) rfl (by simp [isCell]) (by omega) (by omega) (by have := hg1.size; simp; omega) ?_
      intro out' w2 ho2 hg2
      simp (maxSteps := 1000000) (disch := omega) only [↓sy1, sy2, sy3, readOK, sy5, sy6, Nat.reduceEqDiff, ↓reduceIte, sy7, sy8, sy9, sya, oneOf, syb, syc, Nat.reduceAdd, Nat.reduceMul, syd, sye, syf, syg, syh, reduceCtorEq, e6, e0, e1]
      refine R_out ⟨⟨i + 1, by omega, rfl, ?_, ?_⟩, by simp only [intOf]; omega⟩
      · rw [htk, List.filter_append, show [l[i]].filter (fun k => decide (k ≠ n)) = [l[i]] from by simp [hne], List.length_append, List.length_singleton]
        have : ints (zs ((l.take i).filter (fun k => decide (k ≠ n)) ++ [l[i]])) = ints (zs ((l.take i).filter (fun k => decide (k ≠ n)))) ++ [.int .i64 (l[i] : Nat)] := by simp [ints, zs]
        rw [this]; exact ho2
      · exact (hg1.trans hga).then (Keep.grown hg2) (fun b hb hc => by have := (World.ownsRow.lt ho1 b hc.symm).1; omega)
  · have hie : i = l.length := by omega
    rw [hie, List.take_length] at ho1
    simp (maxSteps := 1000000) (disch := omega) only [↓sy1, sy2, sy3, readOK, sy5, sy6, Nat.reduceEqDiff, ↓reduceIte, sy7, sy8, sy9, sya, oneOf, syb, syc, Nat.reduceAdd, Nat.reduceMul, syd, sye, syf, syg, syh, reduceCtorEq, F62_L0, e6, e0, e1, hlen, Int.ofNat_lt, hlt, decide_false]
    exact R_out ⟨ho1, hg1⟩
/-- A page's place. -/
theorem rat_spec (h : RCacheAt G κ μ w r rq came c ps) (n : Nat) :
    Calls Tryz.prog 42 #[.pointer (some ⟨r, 0, none⟩), .int .i64 n] w (Ret fun v w' => ((∃ i : Nat, v = .int .i64 i ∧ i < ps.length ∧ (∀ h : i < ps.length, ps[i].1 = (n : Int))) ∨ (v = .int .i64 (-1) ∧ ∀ p ∈ ps, p.1 ≠ (n : Int))) ∧ w' = w) := by
  obtain ⟨dv, rv, hc⟩ := h.cells
  obtain ⟨c0, c1, c2, c3, hdv, hrv⟩ := hc (Keep.refl _ _)
  have hlen := hdv.len
  have hpl := Csh.group_len h.grp
  have hroom := h.ok.room
  simp only [Csh.cap] at hroom
  apply enter42
  apply R_in
  simp (maxSteps := 1000000) (disch := omega) only [↓sy1, sy2, sy3, readOK, sy5, sy6, Nat.reduceEqDiff, ↓reduceIte, sy7, sy8, sy9, sya, oneOf, syb, syc, Nat.reduceAdd, Nat.reduceMul, syd, sye, syf, syg, syh, reduceCtorEq, F42]
  refine loop_rule (fun e w' => ∃ i : Nat, i ≤ ps.length ∧ e 5 = .int .i64 i ∧ e 0 = .pointer (some ⟨r, 0, none⟩) ∧ e 1 = .int .i64 n ∧ w' = w ∧ ∀ j (h : j < ps.length), j < i → ps[j].1 ≠ (n : Int)) (fun e _ => ps.length - (intOf (e 5)).toNat)
    ⟨0, by omega, by simp [upd, updO, ev], by simp [upd, updO, ev], by simp [upd, updO, ev], rfl, fun j _ h => by omega⟩ ?_
  rintro e w1 ⟨i, hi, e5, e0, e1, rfl, hno⟩
  by_cases hlt : i < ps.length
  · obtain ⟨b, o, u, hia, hcb, _, _⟩ := hdv.parts hlt
    by_cases he : ps[i].1 = (n : Int)
    · simp (maxSteps := 1000000) (disch := omega) only [↓sy1, sy2, sy3, readOK, sy5, sy6, Nat.reduceEqDiff, ↓reduceIte, sy7, sy8, sy9, sya, oneOf, syb, syc, Nat.reduceAdd, Nat.reduceMul, syd, sye, syf, syg, syh, reduceCtorEq, F42_L0, e5, e0, e1, c2, hlen, Int.ofNat_lt, hlt, decide_true, hia, hcb, he]
      exact R_out (.inl ⟨i, rfl, hlt, fun _ => he⟩)
    · simp (maxSteps := 1000000) (disch := omega) only [↓sy1, sy2, sy3, readOK, sy5, sy6, Nat.reduceEqDiff, ↓reduceIte, sy7, sy8, sy9, sya, oneOf, syb, syc, Nat.reduceAdd, Nat.reduceMul, syd, sye, syf, syg, syh, reduceCtorEq, F42_L0, e5, e0, e1, c2, hlen, Int.ofNat_lt, hlt, decide_true, hia, hcb, he, decide_false]
      refine R_out ⟨⟨i + 1, by omega, rfl, fun j hj hji => ?_⟩, by simp only [intOf]; omega⟩
      by_cases hjj : j = i
      · subst hjj; exact he
      · exact hno j hj (by omega)
  · simp (maxSteps := 1000000) (disch := omega) only [↓sy1, sy2, sy3, readOK, sy5, sy6, Nat.reduceEqDiff, ↓reduceIte, sy7, sy8, sy9, sya, oneOf, syb, syc, Nat.reduceAdd, Nat.reduceMul, syd, sye, syf, syg, syh, reduceCtorEq, F42_L0, e5, e0, e1, c2, hlen, Int.ofNat_lt, hlt, decide_false]
    refine R_out (.inr fun p hp => ?_)
    obtain ⟨j, hj, rfl⟩ := List.getElem_of_mem hp
    exact hno j hj (by omega)
end
end Go.Proofs.YtgmodahpcpepjaaGreat

/- The reference's cache: Read, Commit, Abort, Room, Cached, a nil one. -/
namespace Go.Proofs.YtgmodahpcpepjaaGreat
open Go
set_option linter.unusedSimpArgs false
open Go.RowKit (intOf)
theorem Zero.of_own {B k : Nat} {t : TypeId} {w' : World} {G : Gh} {v : Value} {xs : List Value} (h : w'.ownsRow B t 1 v k xs) (hG : ∀ b, B ≤ b → G.own b = 0) : Zero G w' v xs :=
  ⟨Has.own h, fun b hb _ => ⟨(World.ownsRow.lt h b hb).2, hG b (World.ownsRow.lt h b hb).1⟩⟩
theorem Has.slcFromZ {G : Gh} {w : World} {v : Value} {xs : List Value} (h : Zero G w v xs) {m : Nat} (hm : m ≤ xs.length) :
    ∃ v', slcF 1 v (some (.int .i64 m)) none none = some v' ∧ Zero G w v' (xs.drop m) ∧ True := by
  obtain ⟨h0, hz⟩ := h
  rcases h0 with ⟨b, o, n, c, rfl, h1, h2, h3⟩ | ⟨rfl, rfl⟩
  · rw [Nat.mul_one] at h1
    have hr : slcF 1 (.slice (some ⟨b, o, none⟩) n c) (some (.int .i64 m)) none none = some (.slice (if c = m then some ⟨b, o, none⟩ else some ⟨b, o + m, none⟩) (n - m) (c - m)) := by
      simp only [slcF, slcV, bndV]
      simp only [Option.isSome_none, Bool.false_eq_true, if_false]
      rw [if_pos ⟨by omega, by omega⟩]
      simp [add_lit]
    refine ⟨_, hr, ?_, trivial⟩
    have hdl : (xs.drop m).length = n - m := by rw [List.length_drop, h1]
    have hzz : ∀ q, xs.drop m ≠ [] → some b = some q → q < w.heap.size ∧ G.own q = 0 := fun q hne hq => hz q hq (fun hx => hne (by rw [hx]; simp))
    by_cases hc : c = m
    · rw [if_pos hc]
      refine ⟨.inl ⟨b, o, n - m, c - m, rfl, by rw [hdl]; omega, by omega, fun j u hj => ?_⟩, fun q hq hne => hzz q hne hq⟩
      rw [List.drop_eq_nil_of_le (by rw [h1]; omega)] at hj; simp at hj
    · rw [if_neg hc]
      refine ⟨.inl ⟨b, o + m, n - m, c - m, rfl, by rw [hdl]; omega, by omega, fun j u hj => ?_⟩, fun q hq hne => hzz q hne hq⟩
      rw [List.getElem?_drop] at hj
      rw [show o + m + j = o + (m + j) from by omega]
      exact h3 _ u hj
  · have hm0 : m = 0 := by simp at hm; omega
    subst hm0
    exact ⟨.slice none 0 0, by simp [slcF, slcV, bndV], ⟨by simpa using Has.nil 1 w, fun q hq => by simp [Value.ownBlock] at hq⟩, trivial⟩
section
variable {G G' : Gh} {κ μ r rq came : Nat} {w w' : World} {c : Csh} {ps : List Pg}
/-- It stands with another row (and other pages), when its own block has changed so. -/
theorem RCacheAt.store {c' : Csh} {ps' : List Pg} {dv rv : Value} (h : RCacheAt G κ μ w r rq came c ps) (hk : Keep (fun b => b = r) w w') (hb : w'.heap[r]? = some (.cells #[.pointer (some ⟨rq, 0, none⟩), .int .i64 c'.most, dv, rv] 46 (0, 0)))
    (hok : c'.Ok) (hgrp : c'.group ps') (hD : c'.D = c.D) (hs : c'.size = c.size) (hd : PagesZ G w dv ps') (hr : Zero G w rv (ints (zs c'.row))) : RCacheAt G κ μ w' r rq came c' ps' ∧ Ext (fun x => x = μ) G w G w' := by
  obtain ⟨h1, h2, h3, h4, h5, dv0, rv0, h6, h7, h8, h9, h10⟩ := h
  have hx : Ext (fun x => x = μ) G w G w' := .on0 hk h7 h8
  have h0 : ¬ (0 = μ) := fun h => h3 h.symm
  exact ⟨⟨hok, h2, h3, hgrp, by rw [hD, hs]; exact h5.ext hx h2 h0, dv, rv, hb, h7, h8, hd.ext hx h0, hr.ext hx h0⟩, hx⟩
theorem rcread_badC (h : RCacheAt G κ μ w r rq came c ps) {n : Int} (hn : n < 0 ∨ (c.N : Int) ≤ n) :
    Calls Tryz.prog 32 #[.pointer (some ⟨r, 0, none⟩), .int .i64 n] w (Ret fun v w' => v = .tuple #[.slice none 0 0, .int .i64 2] ∧ Grow w w') := by
  obtain ⟨dv, rv, hc⟩ := h.cells
  have hN : c.N = c.D.first.length - c.size - 1 := rfl
  apply enter32
  apply R_in
  by_cases h0 : n < 0
  · simp (maxSteps := 1000000) (disch := omega) only [↓sy1, sy2, sy3, readOK, sy5, sy6, Nat.reduceEqDiff, ↓reduceIte, sy7, sy8, sy9, sya, oneOf, syb, syc, Nat.reduceAdd, Nat.reduceMul, syd, sye, syf, syg, syh, reduceCtorEq, F32, h0, decide_true]
    exact R_out (Keep.refl _ _)
  · simp (maxSteps := 1000000) (disch := omega) only [↓sy1, sy2, sy3, readOK, sy5, sy6, Nat.reduceEqDiff, ↓reduceIte, sy7, sy8, sy9, sya, oneOf, syb, syc, Nat.reduceAdd, Nat.reduceMul, syd, sye, syf, syg, syh, reduceCtorEq, F32, h0, decide_false, (hc (Keep.refl _ _)).1]
    refine call0 (rpages_spec h.log) ?_
    rintro _ w1 ⟨rfl, hg1⟩
    simp (maxSteps := 1000000) (disch := omega) only [↓sy1, sy2, sy3, readOK, sy5, sy6, Nat.reduceEqDiff, ↓reduceIte, sy7, sy8, sy9, sya, oneOf, syb, syc, Nat.reduceAdd, Nat.reduceMul, syd, sye, syf, syg, syh, reduceCtorEq, show (((c.D.first.length - c.size - 1 : Nat) : Int) ≤ n) from by omega, decide_true]
    exact R_out hg1
theorem Csh.group_at (h : c.group ps) (hok : c.Ok) {i n : Nat} (hi : i < ps.length) (hn : ps[i].1 = (n : Int)) : c.q n = some ps[i].2 := by
  obtain ⟨m, b, hq, hp⟩ := (Csh.group_mem hok h).1 (List.getElem_mem hi)
  rw [hp] at hn ⊢
  simp only at hn
  have : m = n := by omega
  subst this; exact hq
theorem Csh.group_none (h : c.group ps) (hok : c.Ok) {n : Nat} (hno : ∀ p ∈ ps, p.1 ≠ (n : Int)) : c.q n = none := by
  cases hq : c.q n with
  | none => rfl
  | some b => exact absurd rfl (hno _ ((Csh.group_mem hok h).2 ⟨n, b, hq, rfl⟩))
theorem Csh.read_group (h : c.group ps) (n : Nat) : (c.read n).group ps := by
  simp only [Csh.group, Csh.dirtyL, Csh.read_dirty, Csh.read_q]
  exact h
set_option maxHeartbeats 4000000 in
theorem rcread_spec (h : RCacheAt G κ μ w r rq came c ps) {n : Nat} (hn : n < c.N) :
    Calls Tryz.prog 32 #[.pointer (some ⟨r, 0, none⟩), .int .i64 n] w (Ret fun v w' => ∃ u G', v = .tuple #[u, .int .i64 0] ∧ HasB w' u (c.page n) ∧ RCacheAt G' κ μ w' r rq came (c.read n) ps ∧ Ext (fun x => x = μ) G w G' w') := by
  have hok := h.ok
  have hN : c.N = c.D.first.length - c.size - 1 := rfl
  have hokr := hok.read hn
  have hfew := hok.few
  have hm1 := hok.m1
  have hm2 := hok.m2
  have hpl := Csh.page_length hok hn
  obtain ⟨dv, rv, hc⟩ := h.cells
  apply enter32
  apply R_in
  simp (maxSteps := 1000000) (disch := omega) only [↓sy1, sy2, sy3, readOK, sy5, sy6, Nat.reduceEqDiff, ↓reduceIte, sy7, sy8, sy9, sya, oneOf, syb, syc, Nat.reduceAdd, Nat.reduceMul, syd, sye, syf, syg, syh, reduceCtorEq, F32, show ¬ ((n : Int) < 0) from by omega, decide_false, (hc (Keep.refl _ _)).1]
  refine call0 (rpages_spec h.log) ?_
  rintro _ w1 ⟨rfl, hg1⟩
  simp (maxSteps := 1000000) (disch := omega) only [↓sy1, sy2, sy3, readOK, sy5, sy6, Nat.reduceEqDiff, ↓reduceIte, sy7, sy8, sy9, sya, oneOf, syb, syc, Nat.reduceAdd, Nat.reduceMul, syd, sye, syf, syg, syh, reduceCtorEq, show ¬ (((c.D.first.length - c.size - 1 : Nat) : Int) ≤ (n : Int)) from by omega, decide_false]
  have h1 := h.grow hg1
  refine call0 (rat_spec h1 n) ?_
  rintro _ w1' ⟨hat, rfl⟩
  obtain ⟨c0, c1, c2, c3, hdv, hrv⟩ := hc hg1
  rcases hat with ⟨i, rfl, hi, hin⟩ | ⟨rfl, hno⟩
  · have hin := hin hi
    have hq := Csh.group_at h.grp hok hi hin
    obtain ⟨b, o, u, hia, hcb, hcu, hzu⟩ := hdv.parts hi
    have hpage : c.page n = ps[i].2 := by simp [Csh.page, hq]
    have hrd : c.read n = c := by simp [Csh.read, hq]
    rw [hpage] at hpl
    simp (maxSteps := 1000000) (disch := omega) only [↓sy1, sy2, sy3, readOK, sy5, sy6, Nat.reduceEqDiff, ↓reduceIte, sy7, sy8, sy9, sya, oneOf, syb, syc, Nat.reduceAdd, Nat.reduceMul, syd, sye, syf, syg, syh, reduceCtorEq, show ((0 : Int) ≤ (i : Int)) from by omega, decide_true, c2, hia, hcu]
    refine call0 (copy_spec u _ w1' hzu.1 (by omega)) ?_
    rintro u2 w2 ⟨hu2, hg2⟩
    simp (maxSteps := 1000000) (disch := omega) only [↓sy1, sy2, sy3, readOK, sy5, sy6, Nat.reduceEqDiff, ↓reduceIte, sy7, sy8, sy9, sya, oneOf, syb, syc, Nat.reduceAdd, Nat.reduceMul, syd, sye, syf, syg, syh, reduceCtorEq]
    rw [hrd, hpage]
    exact R_out ⟨u2, G, rfl, Has.own hu2, h1.grow hg2, .grow (hg1.trans hg2)⟩
  · have hq := Csh.group_none h.grp hok hno
    have hpage : c.page n = c.D.image.getD (c.size + 1 + n) [] := by simp [Csh.page, hq]
    have hrd : c.read n = { c with row := touch c.row n c.most } := by simp [Csh.read, hq]
    simp (maxSteps := 1000000) (disch := omega) only [↓sy1, sy2, sy3, readOK, sy5, sy6, Nat.reduceEqDiff, ↓reduceIte, sy7, sy8, sy9, sya, oneOf, syb, syc, Nat.reduceAdd, Nat.reduceMul, syd, sye, syf, syg, syh, reduceCtorEq, show ¬ ((0 : Int) ≤ (-1 : Int)) from by omega, decide_false, c3]
    refine call0 (without_spec (n := n) hrv.1 (by omega)) ?_
    rintro ov w2 ⟨hov, hg2⟩
    simp (maxSteps := 1000000) (disch := omega) only [↓sy1, sy2, sy3, readOK, sy5, sy6, Nat.reduceEqDiff, ↓reduceIte, sy7, sy8, sy9, sya, oneOf, syb, syc, Nat.reduceAdd, Nat.reduceMul, syd, sye, syf, syg, syh, reduceCtorEq]
    have hga : Grow w2 (w2.alloc (.cells #[.int .i64 (n : Int)] 3)) := (Keep.refl _ _).alloc _
    have hlf := List.length_filter_le (fun k => decide (k ≠ n)) c.row
    have hs2 := hg2.size
    refine app_own elemI (by simp only [upd_at, Nat.reduceEqDiff, reduceIte, ev_tmp, ev_const, List.map_cons, List.map_nil]) (by simp only [upd_at, Nat.reduceEqDiff, reduceIte, ev_tmp, ev_const, List.map_cons, List.map_nil]) (own_grow hov hga) Has.new1 (m := 1) rfl (by simp [isCell]) (by omega) (by omega) (by simp; omega) ?_
    intro rv' w3 ho3 hg3
    have hg13 : Grow w1' w3 := (hg2.trans hga).then (Keep.grown hg3) (fun b hb hc => by have := (World.ownsRow.lt hov b hc.symm).1; omega)
    have hints : ints (zs (c.row.filter (fun k => decide (k ≠ n)))) ++ [.int .i64 (n : Int)] = ints (zs (c.row.filter (fun k => decide (k ≠ n)) ++ [n])) := by simp [ints, zs]
    rw [hints] at ho3
    have hx3 : Ext0 G w1' (G.new w1'.heap.size) w3 := .newB hg13
    have hz3 : Zero (G.new w1'.heap.size) w3 rv' (ints (zs (c.row.filter (fun k => decide (k ≠ n)) ++ [n]))) := .of_own ho3 (fun b hb => Gh.new_own hb)
    have h3 := h1.ext hx3 id id id
    have hx03 : Ext0 G w (G.new w1'.heap.size) w3 := (Ext.grow hg1).trans hx3
    generalize G.new w1'.heap.size = G3 at hx3 hz3 h3 hx03
    have hd3 := hdv.ext hx3 id
    obtain ⟨dv', rv0, hb3, ho3', hf3, _, _⟩ := h3.at_
    have hdd : dv' = dv := by
      have := (hc (hg1.trans hg13)).2.2.1
      rw [cell_block hb3] at this
      simpa using this
    subst hdd
    obtain ⟨w4, hst, hb4, hk4⟩ := cell_store hb3 (i := 3) (by simp) (u := rv') hz3.1.isCell
    have hb4' : w4.heap[r]? = some (.cells #[.pointer (some ⟨rq, 0, none⟩), .int .i64 c.most, dv', rv'] 46 (0, 0)) := by simpa using hb4
    simp (maxSteps := 1000000) (disch := omega) only [↓sy1, sy2, sy3, readOK, sy5, sy6, Nat.reduceEqDiff, ↓reduceIte, sy7, sy8, sy9, sya, oneOf, syb, syc, Nat.reduceAdd, Nat.reduceMul, syd, sye, syf, syg, syh, reduceCtorEq, hst]
    have hx34 : Ext (fun x => x = μ) G3 w3 G3 w4 := .on0 hk4 ho3' hf3
    have h0μ : ¬ (0 = μ) := fun hh => h.ne0 hh.symm
    have hz4 := hz3.ext hx34 h0μ
    refine draw32_0 (fun _ => False) ?_
    have hgd : Grow w4 w4.drew := (Keep.refl _ _).drew
    generalize w4.drew = w5 at hgd ⊢
    have hb5 := hgd.gheap hb4'
    have q1 : w5.cell? ⟨r, 1, none⟩ = some (.int .i64 c.most) := by rw [cell_block hb5]; rfl
    have q3 : w5.cell? ⟨r, 3, none⟩ = some rv' := by rw [cell_block hb5]; rfl
    have hlr : (ints (zs (c.row.filter (fun k => decide (k ≠ n)) ++ [n]))).length = (c.row.filter (fun k => decide (k ≠ n)) ++ [n]).length := by simp [ints, zs]
    have hlen : ∀ w', lenF w' 0 rv' = some (.int .i64 (c.row.filter (fun k => decide (k ≠ n)) ++ [n]).length) := fun w' => by rw [hz3.1.len, hlr]
    have hgr := Csh.read_group h.grp n
    rw [hrd] at hgr hokr ⊢
    have htd : touch c.row n c.most = if c.most < (c.row.filter (fun k => decide (k ≠ n)) ++ [n]).length then (c.row.filter (fun k => decide (k ≠ n)) ++ [n]).drop 1 else c.row.filter (fun k => decide (k ≠ n)) ++ [n] := rfl
    have hlr2 : 1 ≤ (c.row.filter (fun k => decide (k ≠ n)) ++ [n]).length := by rw [List.length_append, List.length_singleton]; omega
    have hlr3 : (c.row.filter (fun k => decide (k ≠ n)) ++ [n]).length ≤ 1000 := by rw [List.length_append, List.length_singleton]; omega
    rw [htd] at hgr hokr ⊢
    have himg : c.D.image[c.size + 1 + n]'(by rw [Dsk.image_length]; omega) = c.page n := by rw [hpage]; exact image_page hok hn
    generalize hrr : c.row.filter (fun k => decide (k ≠ n)) ++ [n] = row' at *
    by_cases hlt : c.most < row'.length
    · rw [if_pos hlt] at hgr hokr ⊢
      obtain ⟨v', hsl, hhv, hown'⟩ := Has.slcFromZ hz3 (m := 1) (by omega)
      have hsl : slcF 1 rv' (some (.int .i64 1)) none none = some v' := hsl
      have hdr : (ints (zs row')).drop 1 = ints (zs (row'.drop 1)) := by simp [ints, zs, List.map_drop]
      rw [hdr] at hhv
      obtain ⟨w6, hst6, hb6, hk6⟩ := cell_store hb5 (i := 3) (by simp) (u := v') hhv.1.isCell
      have hb6' : w6.heap[r]? = some (.cells #[.pointer (some ⟨rq, 0, none⟩), .int .i64 c.most, dv', v'] 46 (0, 0)) := by simpa using hb6
      have hk36 : Keep (fun b => b = r) w3 w6 := (hk4.trans (hgd.mono (fun _ _ h => h.elim))).trans hk6
      obtain ⟨h6, hx36⟩ := h3.store (c' := { c with row := row'.drop 1 }) hk36 hb6' hokr hgr rfl rfl hd3 hhv
      have hc0 : w6.cell? ⟨r, 0, none⟩ = some (.pointer (some ⟨rq, 0, none⟩)) := by rw [cell_block hb6']; rfl
      simp (maxSteps := 1000000) (disch := omega) only [↓sy1, sy2, sy3, readOK, sy5, sy6, Nat.reduceEqDiff, ↓reduceIte, sy7, sy8, sy9, sya, oneOf, syb, syc, Nat.reduceAdd, Nat.reduceMul, syd, sye, syf, syg, syh, reduceCtorEq, PL32_0, q1, q3, hlen, show ((c.most : Int) < (row'.length : Int)) from by omega, decide_true, hsl, hst6, hc0]
      refine call0 (rlread_spec h6.log (n := n) (by show n < c.D.first.length - c.size - 1; omega)) ?_
      rintro _ w7 ⟨u, rfl, hu, hg7⟩
      simp (maxSteps := 1000000) (disch := omega) only [↓sy1, sy2, sy3, readOK, sy5, sy6, Nat.reduceEqDiff, ↓reduceIte, sy7, sy8, sy9, sya, oneOf, syb, syc, Nat.reduceAdd, Nat.reduceMul, syd, sye, syf, syg, syh, reduceCtorEq]
      exact R_out ⟨u, G3, rfl, by rw [← himg]; exact hu, h6.grow hg7, ((hx03.mono (fun _ h => h.elim)).trans hx36).trans (.grow hg7)⟩
    · rw [if_neg hlt] at hgr hokr ⊢
      have hk35 : Keep (fun b => b = r) w3 w5 := hk4.trans (hgd.mono (fun _ _ h => h.elim))
      obtain ⟨h5, hx35⟩ := h3.store (c' := { c with row := row' }) hk35 hb5 hokr hgr rfl rfl hd3 hz3
      have hc0 : w5.cell? ⟨r, 0, none⟩ = some (.pointer (some ⟨rq, 0, none⟩)) := by rw [cell_block hb5]; rfl
      simp (maxSteps := 1000000) (disch := omega) only [↓sy1, sy2, sy3, readOK, sy5, sy6, Nat.reduceEqDiff, ↓reduceIte, sy7, sy8, sy9, sya, oneOf, syb, syc, Nat.reduceAdd, Nat.reduceMul, syd, sye, syf, syg, syh, reduceCtorEq, PL32_0, q1, q3, hlen, show ¬ ((c.most : Int) < (row'.length : Int)) from by omega, decide_false, hc0]
      refine call0 (rlread_spec h5.log (n := n) (by show n < c.D.first.length - c.size - 1; omega)) ?_
      rintro _ w7 ⟨u, rfl, hu, hg7⟩
      simp (maxSteps := 1000000) (disch := omega) only [↓sy1, sy2, sy3, readOK, sy5, sy6, Nat.reduceEqDiff, ↓reduceIte, sy7, sy8, sy9, sya, oneOf, syb, syc, Nat.reduceAdd, Nat.reduceMul, syd, sye, syf, syg, syh, reduceCtorEq]
      exact R_out ⟨u, G3, rfl, by rw [← himg]; exact hu, h5.grow hg7, ((hx03.mono (fun _ h => h.elim)).trans hx35).trans (.grow hg7)⟩
theorem rccommit_spec (h : RCacheAt G κ μ w r rq came c ps) (ho : c.D.ops.length < 700000) :
    Calls Tryz.prog 35 #[.pointer (some ⟨r, 0, none⟩)] w (Ret fun v w' => v = .int .i64 0 ∧ ∃ G', RCacheAt G' κ μ w' r rq came c.commit [] ∧ Ext (fun x => x = κ ∨ x = μ) G w G' w') := by
  have hok := h.ok
  have hpl := Csh.group_len h.grp
  have hroom := hok.room
  simp only [Csh.cap] at hroom
  obtain ⟨hcode, hdone⟩ := Csh.group_code hok h.grp
  obtain ⟨dv, rv, hc⟩ := h.cells
  have hκ0 : κ ≠ 0 := h.log.1
  apply enter35
  apply R_in
  simp (maxSteps := 1000000) (disch := omega) only [↓sy1, sy2, sy3, readOK, sy5, sy6, Nat.reduceEqDiff, ↓reduceIte, sy7, sy8, sy9, sya, oneOf, syb, syc, Nat.reduceAdd, Nat.reduceMul, syd, sye, syf, syg, syh, reduceCtorEq, F35]
  refine draw35_0 (fun _ => False) ?_
  have hgd : Grow w w.drew := (Keep.refl _ _).drew
  generalize w.drew = w1 at hgd ⊢
  obtain ⟨c0, c1, c2, c3, hdv, hrv⟩ := hc hgd
  have h1 := h.grow hgd
  obtain ⟨xs, hP⟩ := hdv.held hκ0
  simp (maxSteps := 1000000) (disch := omega) only [↓sy1, sy2, sy3, readOK, sy5, sy6, Nat.reduceEqDiff, ↓reduceIte, sy7, sy8, sy9, sya, oneOf, syb, syc, Nat.reduceAdd, Nat.reduceMul, syd, sye, syf, syg, syh, reduceCtorEq, PL35_0, c0, c2]
  refine call0 (rcommit_spec h1.log hP (by omega) ho) ?_
  rintro _ w2 ⟨rfl, G2, hl2, hx2⟩
  rw [hcode, hdone] at *
  obtain ⟨dv', rv', hb, hown, hfix, hdv', hrv'⟩ := h1.at_
  have hlt := hx2.lt hb
  have hμκ : ¬ (μ = κ) := fun hh => h.ne hh.symm
  have h0κ : ¬ (0 = κ) := fun hh => hκ0 hh.symm
  have h0μ : ¬ (0 = μ) := fun hh => h.ne0 hh.symm
  have hb2 := hx2.heap hb (by rw [hown]; exact hμκ)
  obtain ⟨w3, hst, hb3, hk3⟩ := cell_store hb2 (i := 2) (by simp) (u := .slice none 0 0) rfl
  have hb3' : w3.heap[r]? = some (.cells #[.pointer (some ⟨rq, 0, none⟩), .int .i64 c.most, .slice none 0 0, rv'] 46 (0, 0)) := by simpa using hb3
  have ho2 : G2.own r = μ := by rw [hx2.own r hlt]; exact hown
  have hf2 : G2.fix r = 0 := by rw [hx2.fixe r hlt (by rw [hown]; exact hμκ)]; exact hfix
  have hx3 : Ext (fun x => x = μ) G2 w2 G2 w3 := .on0 hk3 ho2 hf2
  simp (maxSteps := 1000000) (disch := omega) only [↓sy1, sy2, sy3, readOK, sy5, sy6, Nat.reduceEqDiff, ↓reduceIte, sy7, sy8, sy9, sya, oneOf, syb, syc, Nat.reduceAdd, Nat.reduceMul, syd, sye, syf, syg, syh, reduceCtorEq, decide_true, hst]
  refine R_out ⟨G2, ⟨hok.commit ?_, h.ne, h.ne0, ?_, hl2.ext hx3 h.ne h0μ, .slice none 0 0, rv', hb3', ho2, hf2, PagesZ.nil _ _, (hrv'.ext hx2 h0κ).ext hx3 h0μ⟩, ((Ext.grow hgd).trans (hx2.mono (fun _ h => .inl h))).trans (hx3.mono (fun _ h => .inr h))⟩
  · exact hl2.cells.choose_spec.1.ok
  · simp only [Csh.group, Csh.dirtyL, Csh.dirty_commit]; exact List.Perm.refl _
theorem rcabort_spec (h : RCacheAt G κ μ w r rq came c ps) :
    Calls Tryz.prog 37 #[.pointer (some ⟨r, 0, none⟩)] w (Ret fun v w' => v = .int .i64 c.dirty.length ∧ RCacheAt G κ μ w' r rq came c.abort [] ∧ Ext (fun x => x = μ) G w G w') := by
  have hpl := Csh.group_len h.grp
  obtain ⟨dv, rv, hb, hown, hfix, hdv, hrv⟩ := h.at_
  have hlen := hdv.len
  have c2 : w.cell? ⟨r, 2, none⟩ = some dv := by rw [cell_block hb]; rfl
  obtain ⟨w3, hst, hb3, hk3⟩ := cell_store hb (i := 2) (by simp) (u := .slice none 0 0) rfl
  have hb3' : w3.heap[r]? = some (.cells #[.pointer (some ⟨rq, 0, none⟩), .int .i64 c.most, .slice none 0 0, rv] 46 (0, 0)) := by simpa using hb3
  have had : c.abort.dirty = [] := keysQ_none _
  obtain ⟨h3, hx3⟩ := h.store (c' := c.abort) (ps' := []) hk3 hb3' h.ok.abort (by simp only [Csh.group, Csh.dirtyL, had]; exact List.Perm.refl _) rfl rfl (PagesZ.nil _ _) hrv
  apply enter37
  apply R_in
  simp (maxSteps := 1000000) (disch := omega) only [↓sy1, sy2, sy3, readOK, sy5, sy6, Nat.reduceEqDiff, ↓reduceIte, sy7, sy8, sy9, sya, oneOf, syb, syc, Nat.reduceAdd, Nat.reduceMul, syd, sye, syf, syg, syh, reduceCtorEq, F37, c2, hlen, hst]
  rw [hpl]
  exact R_out ⟨rfl, h3, hx3⟩
theorem rcroom_spec (h : RCacheAt G κ μ w r rq came c ps) :
    Calls Tryz.prog 13 #[.pointer (some ⟨r, 0, none⟩)] w (Ret fun v w' => v = .int .i64 ((c.cap : Int) - c.dirty.length) ∧ Grow w w') := by
  have hpl := Csh.group_len h.grp
  have hroom := h.ok.room
  simp only [Csh.cap] at hroom
  obtain ⟨dv, rv, hc⟩ := h.cells
  apply enter13
  apply R_in
  simp (maxSteps := 1000000) (disch := omega) only [↓sy1, sy2, sy3, readOK, sy5, sy6, Nat.reduceEqDiff, ↓reduceIte, sy7, sy8, sy9, sya, oneOf, syb, syc, Nat.reduceAdd, Nat.reduceMul, syd, sye, syf, syg, syh, reduceCtorEq, F13]
  refine draw13_0 (fun _ => False) ?_
  have hgd : Grow w w.drew := (Keep.refl _ _).drew
  generalize w.drew = w1 at hgd ⊢
  obtain ⟨c0, c1, c2, c3, hdv, hrv⟩ := hc hgd
  have hlen := hdv.len
  rw [hpl] at hlen
  simp (maxSteps := 1000000) (disch := omega) only [↓sy1, sy2, sy3, readOK, sy5, sy6, Nat.reduceEqDiff, ↓reduceIte, sy7, sy8, sy9, sya, oneOf, syb, syc, Nat.reduceAdd, Nat.reduceMul, syd, sye, syf, syg, syh, reduceCtorEq, PL13_0, c0, c2, hlen]
  refine call0 (rcapacity_spec (h.grow hgd).log) ?_
  rintro _ w2 ⟨rfl, rfl⟩
  simp (maxSteps := 1000000) (disch := omega) only [↓sy1, sy2, sy3, readOK, sy5, sy6, Nat.reduceEqDiff, ↓reduceIte, sy7, sy8, sy9, sya, oneOf, syb, syc, Nat.reduceAdd, Nat.reduceMul, syd, sye, syf, syg, syh, reduceCtorEq]
  refine ⟨Keep.refl _ _, ?_⟩
  exact R_out ⟨rfl, hgd⟩
theorem rccached_spec (h : RCacheAt G κ μ w r rq came c ps) :
    Calls Tryz.prog 9 #[.pointer (some ⟨r, 0, none⟩)] w (Ret fun v w' => HasI w' v (zs c.row) ∧ Grow w w') := by
  obtain ⟨dv, rv, hc⟩ := h.cells
  obtain ⟨c0, c1, c2, c3, hdv, hrv⟩ := hc (Keep.refl _ _)
  have hfew := h.ok.few
  have hm2 := h.ok.m2
  apply enter9
  apply R_in
  simp (maxSteps := 1000000) (disch := omega) only [↓sy1, sy2, sy3, readOK, sy5, sy6, Nat.reduceEqDiff, ↓reduceIte, sy7, sy8, sy9, sya, oneOf, syb, syc, Nat.reduceAdd, Nat.reduceMul, syd, sye, syf, syg, syh, reduceCtorEq, F9, c3, Bool.not_false]
  refine app_own elemI (by simp only [upd_at, Nat.reduceEqDiff, reduceIte, ev_tmp, ev_const, List.map_cons, List.map_nil]) (by simp only [upd_at, Nat.reduceEqDiff, reduceIte, ev_tmp, ev_const, List.map_cons, List.map_nil]) (World.ownsRow_nil w w.heap.size _ 1) hrv.1 (m := c.row.length) (by simp [ints, zs]) (ints_cell _) (by omega) (by omega) (Nat.le_refl _) ?_
  intro out' w2 ho2 hg2
  simp (maxSteps := 1000000) (disch := omega) only [↓sy1, sy2, sy3, readOK, sy5, sy6, Nat.reduceEqDiff, ↓reduceIte, sy7, sy8, sy9, sya, oneOf, syb, syc, Nat.reduceAdd, Nat.reduceMul, syd, sye, syf, syg, syh, reduceCtorEq]
  rw [List.nil_append] at ho2
  exact R_out ⟨Has.own ho2, (Keep.grown hg2).mono (fun b hb h => by cases h)⟩
theorem rcdirty_spec (h : RCacheAt G κ μ w r rq came c ps) :
    Calls Tryz.prog 11 #[.pointer (some ⟨r, 0, none⟩)] w (Ret fun v w' => HasI w' v (zs c.dirty) ∧ Grow w w') := by
  obtain ⟨dv, rv, hc⟩ := h.cells
  have hN : c.N = c.D.first.length - c.size - 1 := rfl
  have hmost := h.ok.ok.most
  have hd : c.dirty = (List.range c.N).filter fun n => (c.q n).isSome := rfl
  apply enter11
  apply R_in
  simp (maxSteps := 1000000) (disch := omega) only [↓sy1, sy2, sy3, readOK, sy5, sy6, Nat.reduceEqDiff, ↓reduceIte, sy7, sy8, sy9, sya, oneOf, syb, syc, Nat.reduceAdd, Nat.reduceMul, syd, sye, syf, syg, syh, reduceCtorEq, F11]
  refine loop_rule (fun e w' => ∃ i : Nat, i ≤ c.N ∧ e 4 = .int .i64 i ∧ e 0 = .pointer (some ⟨r, 0, none⟩) ∧ w'.ownsRow w.heap.size 3 1 (e 3) ((List.range i).filter fun n => (c.q n).isSome).length (ints (zs ((List.range i).filter fun n => (c.q n).isSome))) ∧ Grow w w') (fun e _ => c.N - (intOf (e 4)).toNat)
    ⟨0, by omega, by simp [upd, updO, ev], by simp [upd, updO, ev], by simpa [upd, updO, ev, ints, zs] using World.ownsRow_nil w _ _ _, Keep.refl _ _⟩ ?_
  rintro e w1 ⟨i, hi, e4, e0, ho1, hg1⟩
  obtain ⟨c0, c1, c2, c3, hdv, hrv⟩ := hc hg1
  have h1 := h.grow hg1
  have hfl := List.length_filter_le (fun n => (c.q n).isSome) (List.range i)
  rw [List.length_range] at hfl
  simp (maxSteps := 1000000) (disch := omega) only [↓sy1, sy2, sy3, readOK, sy5, sy6, Nat.reduceEqDiff, ↓reduceIte, sy7, sy8, sy9, sya, oneOf, syb, syc, Nat.reduceAdd, Nat.reduceMul, syd, sye, syf, syg, syh, reduceCtorEq, F11_L0, e4, e0, c0, Bool.not_false]
  refine call0 (rpages_spec h1.log) ?_
  rintro _ w2 ⟨rfl, hg2⟩
  have hg12 := hg1.trans hg2
  have ho2 := own_grow ho1 hg2
  by_cases hlt : i < c.N
  · simp (maxSteps := 1000000) (disch := omega) only [↓sy1, sy2, sy3, readOK, sy5, sy6, Nat.reduceEqDiff, ↓reduceIte, sy7, sy8, sy9, sya, oneOf, syb, syc, Nat.reduceAdd, Nat.reduceMul, syd, sye, syf, syg, syh, reduceCtorEq, e4, e0, show ((i : Int) < ((c.D.first.length - c.size - 1 : Nat) : Int)) from by omega, decide_true]
    refine call0 (rat_spec (h1.grow hg2) i) ?_
    rintro _ w3 ⟨hat, rfl⟩
    have hrs : List.range (i + 1) = List.range i ++ [i] := List.range_succ
    rcases hat with ⟨j, rfl, hj, hjn⟩ | ⟨rfl, hno⟩
    · have hq := Csh.group_at h.grp h.ok hj (hjn hj)
      simp (maxSteps := 1000000) (disch := omega) only [↓sy1, sy2, sy3, readOK, sy5, sy6, Nat.reduceEqDiff, ↓reduceIte, sy7, sy8, sy9, sya, oneOf, syb, syc, Nat.reduceAdd, Nat.reduceMul, syd, sye, syf, syg, syh, reduceCtorEq, e4, e0, show ((0 : Int) ≤ (j : Int)) from by omega, decide_true]
      have hga : Grow w3 (w3.alloc (.cells #[.int .i64 (i : Int)] 3)) := (Keep.refl _ _).alloc _
      refine app_own elemI (by simp only [upd_at, Nat.reduceEqDiff, reduceIte, ev_tmp, ev_const, List.map_cons, List.map_nil]) (by simp only [upd_at, Nat.reduceEqDiff, reduceIte, ev_tmp, ev_const, List.map_cons, List.map_nil]) (own_grow ho2 hga) Has.new1 (m := 1) rfl (by simp [isCell]) (by omega) (by omega) (by have := hg12.size; simp; omega) ?_
      intro out' w4 ho4 hg4
      simp (maxSteps := 1000000) (disch := omega) only [↓sy1, sy2, sy3, readOK, sy5, sy6, Nat.reduceEqDiff, ↓reduceIte, sy7, sy8, sy9, sya, oneOf, syb, syc, Nat.reduceAdd, Nat.reduceMul, syd, sye, syf, syg, syh, reduceCtorEq, e4, e0]
      refine R_out ⟨⟨i + 1, by omega, rfl, ?_, ?_⟩, by simp only [intOf]; omega⟩
      · rw [hrs, List.filter_append, show [i].filter (fun n => (c.q n).isSome) = [i] from by simp [hq], List.length_append, List.length_singleton]
        have : ints (zs ((List.range i).filter (fun n => (c.q n).isSome) ++ [i])) = ints (zs ((List.range i).filter (fun n => (c.q n).isSome))) ++ [.int .i64 (i : Int)] := by simp [ints, zs]
        rw [this]; exact ho4
      · exact (hg12.trans hga).then (Keep.grown hg4) (fun b hb hc => by have := (World.ownsRow.lt ho2 b hc.symm).1; omega)
    · have hq := Csh.group_none h.grp h.ok hno
      simp (maxSteps := 1000000) (disch := omega) only [↓sy1, sy2, sy3, readOK, sy5, sy6, Nat.reduceEqDiff, ↓reduceIte, sy7, sy8, sy9, sya, oneOf, syb, syc, Nat.reduceAdd, Nat.reduceMul, syd, sye, syf, syg, syh, reduceCtorEq, e4, e0, show ¬ ((0 : Int) ≤ (-1 : Int)) from by omega, decide_false]
      refine R_out ⟨⟨i + 1, by omega, rfl, ?_, hg12⟩, by simp only [intOf]; omega⟩
      rw [hrs, List.filter_append, show [i].filter (fun n => (c.q n).isSome) = [] from by simp [hq], List.append_nil]
      exact ho2
  · have hie : i = c.N := by omega
    rw [hie] at ho2
    simp (maxSteps := 1000000) (disch := omega) only [↓sy1, sy2, sy3, readOK, sy5, sy6, Nat.reduceEqDiff, ↓reduceIte, sy7, sy8, sy9, sya, oneOf, syb, syc, Nat.reduceAdd, Nat.reduceMul, syd, sye, syf, syg, syh, reduceCtorEq, e4, e0, show ¬ ((i : Int) < ((c.D.first.length - c.size - 1 : Nat) : Int)) from by omega, decide_false]
    rw [hd]
    exact R_out ⟨Has.own ho2, hg12⟩
end
end Go.Proofs.YtgmodahpcpepjaaGreat

/- The reference's cache: Write; a nil one. -/
namespace Go.Proofs.YtgmodahpcpepjaaGreat
open Go
set_option linter.unusedSimpArgs false
open Go.RowKit (intOf)
theorem nodup_fst {l : List Pg} (hl : (l.map (·.1)).Nodup) : l.Nodup := by
  unfold List.Nodup at hl ⊢
  rw [List.pairwise_map] at hl
  exact hl.imp (fun hab hc => hab (by rw [hc]))
theorem dirtyL_nodup (c : Csh) : ((c.dirtyL.map fun p => ((p.1 : Int), p.2)).map (·.1)).Nodup := by
  rw [List.map_map]
  have h4 : (c.dirtyL.map (·.1)).Pairwise (· < ·) := by rw [Csh.dirtyL_fst]; exact keysQ_rise _ _
  rw [List.pairwise_map] at h4
  unfold List.Nodup
  rw [List.pairwise_map]
  exact h4.imp (fun hab => by simp only [Function.comp]; omega)
/-- The cells of pages in nobody's blocks. -/
def PCells (G : Gh) (w : World) (xs : List Value) (ps : List Pg) : Prop := xs.length = 2 * ps.length ∧ ∀ i (h : i < ps.length), xs[2 * i]? = some (.int .i64 ps[i].1) ∧ ∃ u, xs[2 * i + 1]? = some u ∧ Zero G w u (bs ps[i].2)
theorem PCells.nil (G : Gh) (w : World) : PCells G w [] [] := ⟨rfl, fun i hi => by simp at hi⟩
theorem PCells.ext {K : Nat → Prop} {G G' : Gh} {w w' : World} {xs : List Value} {ps : List Pg} (h : PCells G w xs ps) (hx : Ext K G w G' w') (h0 : ¬ K 0) : PCells G' w' xs ps :=
  ⟨h.1, fun i hi => let ⟨h5, u, h6, h7⟩ := h.2 i hi; ⟨h5, u, h6, h7.ext hx h0⟩⟩
theorem PCells.snoc {G : Gh} {w : World} {xs : List Value} {ps : List Pg} {p : Pg} {u : Value} (h : PCells G w xs ps) (hu : Zero G w u (bs p.2)) : PCells G w (xs ++ [.int .i64 p.1, u]) (ps ++ [p]) := by
  obtain ⟨h2, h4⟩ := h
  refine ⟨by simp [h2]; omega, fun j hj => ?_⟩
  by_cases hji : j < ps.length
  · obtain ⟨h5, u', h6, h7⟩ := h4 j hji
    rw [List.getElem_append_left hji, List.getElem?_append_left (by omega), List.getElem?_append_left (by omega)]
    exact ⟨h5, u', h6, h7⟩
  · have hje : j = ps.length := by simp at hj; omega
    subst hje
    rw [List.getElem_append_right (Nat.le_refl _), List.getElem?_append_right (by omega), List.getElem?_append_right (by omega), show 2 * ps.length - xs.length = 0 from by omega, show 2 * ps.length + 1 - xs.length = 1 from by omega]
    simp only [Nat.sub_self, List.getElem_cons_zero]
    exact ⟨rfl, u, rfl, hu⟩
section
variable {G G' : Gh} {κ μ r rq came : Nat} {w w' : World} {c : Csh} {ps : List Pg}
theorem Csh.group_nodup (h : c.group ps) : (ps.map (·.1)).Nodup := ((List.Perm.map _ h).nodup_iff).2 (dirtyL_nodup c)
theorem Csh.group_of (hc : c.Ok) (hn : (ps.map (·.1)).Nodup) (hm : ∀ p, p ∈ ps ↔ ∃ (n : Nat) (b : List UInt8), c.q n = some b ∧ p = ((n : Int), b)) : c.group ps := by
  refine (List.perm_ext_iff_of_nodup (nodup_fst hn) (nodup_fst (dirtyL_nodup c))).2 fun p => ?_
  rw [hm p, List.mem_map]
  constructor
  · rintro ⟨n, b, hq, rfl⟩; exact ⟨(n, b), (Csh.mem_dirtyL hc).2 hq, rfl⟩
  · rintro ⟨⟨n, b⟩, hmm, rfl⟩; exact ⟨n, b, (Csh.mem_dirtyL hc).1 hmm, rfl⟩
/-- The pages behind a write. -/
def wrote (ps : List Pg) (n : Nat) (b : List UInt8) : List Pg := ps.filter (fun p => decide (p.1 ≠ (n : Int))) ++ [((n : Int), b)]
theorem Csh.write_group (hc : c.Ok) (h : c.group ps) {n : Nat} {b : List UInt8} (hok : (c.write n b).Ok) : (c.write n b).group (wrote ps n b) := by
  refine Csh.group_of hok ?_ fun p => ?_
  · rw [wrote, List.map_append, List.nodup_append]
    refine ⟨(Csh.group_nodup h).sublist ((List.filter_sublist ..).map _), by simp, fun a ha d hd => ?_⟩
    simp at hd; subst hd
    obtain ⟨p, hp, rfl⟩ := List.mem_map.1 ha
    simpa using (List.mem_filter.1 hp).2
  · rw [wrote, List.mem_append, List.mem_filter, Csh.group_mem hc h]
    simp only [Csh.write, qput, List.mem_singleton]
    constructor
    · rintro (⟨⟨m, b', hq, rfl⟩, hne⟩ | rfl)
      · have hmn : m ≠ n := fun he => by subst he; simp at hne
        exact ⟨m, b', by rw [if_neg hmn]; exact hq, rfl⟩
      · exact ⟨n, b, by simp, rfl⟩
    · rintro ⟨m, b', hq, rfl⟩
      by_cases hmn : m = n
      · subst hmn
        rw [if_pos rfl] at hq; cases hq
        exact .inr rfl
      · rw [if_neg hmn] at hq
        exact .inl ⟨⟨m, b', hq, rfl⟩, by simp; omega⟩
set_option maxHeartbeats 4000000 in
theorem rcwrite_spec (h : RCacheAt G κ μ w r rq came c ps) {n : Int} {bv : Value} {b : List UInt8} (hb : HasB w bv b) (hl : b.length ≤ 140737488355328) :
    Calls Tryz.prog 34 #[.pointer (some ⟨r, 0, none⟩), .int .i64 n, bv] w (Ret fun v w' => v = .int .i64 (c.wcode n b.length) ∧ ∃ G' ps', RCacheAt G' κ μ w' r rq came (if c.wcode n b.length = 0 then c.write n.toNat b else c) ps' ∧ Ext (fun x => x = μ) G w G' w') := by
  have hok := h.ok
  have hN : c.N = c.D.first.length - c.size - 1 := rfl
  have hpl := Csh.group_len h.grp
  have hroom := hok.room
  simp only [Csh.cap] at hroom
  have hfew := hok.few
  have hm2 := hok.m2
  have hlen : ∀ w', lenF w' 0 bv = some (.int .i64 b.length) := fun w' => by rw [hb.lenB]
  obtain ⟨dv, rv, hc⟩ := h.cells
  apply enter34
  apply R_in
  by_cases h0 : n < 0
  · have hcode : c.wcode n b.length = 2 := by unfold Csh.wcode; rw [if_pos (.inl h0)]
    rw [hcode, if_neg (by omega)]
    simp (maxSteps := 1000000) (disch := omega) only [↓sy1, sy2, sy3, readOK, sy5, sy6, Nat.reduceEqDiff, ↓reduceIte, sy7, sy8, sy9, sya, oneOf, syb, syc, Nat.reduceAdd, Nat.reduceMul, syd, sye, syf, syg, syh, reduceCtorEq, F34, h0, decide_true]
    exact R_out ⟨G, ps, h, .grow (Keep.refl _ _)⟩
  simp (maxSteps := 1000000) (disch := omega) only [↓sy1, sy2, sy3, readOK, sy5, sy6, Nat.reduceEqDiff, ↓reduceIte, sy7, sy8, sy9, sya, oneOf, syb, syc, Nat.reduceAdd, Nat.reduceMul, syd, sye, syf, syg, syh, reduceCtorEq, F34, h0, decide_false, (hc (Keep.refl _ _)).1]
  refine call0 (rpages_spec h.log) ?_
  rintro _ w1 ⟨rfl, hg1⟩
  by_cases hn : (c.N : Int) ≤ n
  · have hcode : c.wcode n b.length = 2 := by unfold Csh.wcode; rw [if_pos (.inr hn)]
    rw [hcode, if_neg (by omega)]
    simp (maxSteps := 1000000) (disch := omega) only [↓sy1, sy2, sy3, readOK, sy5, sy6, Nat.reduceEqDiff, ↓reduceIte, sy7, sy8, sy9, sya, oneOf, syb, syc, Nat.reduceAdd, Nat.reduceMul, syd, sye, syf, syg, syh, reduceCtorEq, show (((c.D.first.length - c.size - 1 : Nat) : Int) ≤ n) from by omega, decide_true]
    exact R_out ⟨G, ps, h.grow hg1, .grow hg1⟩
  obtain ⟨m, rfl⟩ : ∃ m : Nat, n = m := ⟨n.toNat, by omega⟩
  have hnn : ¬ ((m : Int) < 0 ∨ (c.N : Int) ≤ (m : Int)) := by omega
  by_cases h5 : b.length = 512
  rotate_left
  · have hcode : c.wcode m b.length = 3 := by unfold Csh.wcode; rw [if_neg hnn, if_pos h5]
    rw [hcode, if_neg (by omega)]
    simp (maxSteps := 1000000) (disch := omega) only [↓sy1, sy2, sy3, readOK, sy5, sy6, Nat.reduceEqDiff, ↓reduceIte, sy7, sy8, sy9, sya, oneOf, syb, syc, Nat.reduceAdd, Nat.reduceMul, syd, sye, syf, syg, syh, reduceCtorEq, show ¬ (((c.D.first.length - c.size - 1 : Nat) : Int) ≤ (m : Int)) from by omega, decide_false, hlen, show ¬ ((b.length : Int) = 512) from by omega, Bool.not_false]
    exact R_out ⟨G, ps, h.grow hg1, .grow hg1⟩
  simp (maxSteps := 1000000) (disch := omega) only [↓sy1, sy2, sy3, readOK, sy5, sy6, Nat.reduceEqDiff, ↓reduceIte, sy7, sy8, sy9, sya, oneOf, syb, syc, Nat.reduceAdd, Nat.reduceMul, syd, sye, syf, syg, syh, reduceCtorEq, show ¬ (((c.D.first.length - c.size - 1 : Nat) : Int) ≤ (m : Int)) from by omega, decide_false, hlen, show ((b.length : Int) = 512) from by omega, decide_true, Bool.not_true]
  refine draw34_0 (fun _ => False) ?_
  have hg2 := hg1.drew
  generalize w1.drew = w2 at hg2 ⊢
  have h2 := h.grow hg2
  obtain ⟨c0, c1, c2, c3, hdv, hrv⟩ := hc hg2
  have hdl := hdv.len
  simp (maxSteps := 1000000) (disch := omega) only [↓sy1, sy2, sy3, readOK, sy5, sy6, Nat.reduceEqDiff, ↓reduceIte, sy7, sy8, sy9, sya, oneOf, syb, syc, Nat.reduceAdd, Nat.reduceMul, syd, sye, syf, syg, syh, reduceCtorEq, PL34_0]
  refine call0 (rat_spec h2 m) ?_
  rintro _ w2' ⟨hat, rfl⟩
  have hcapc : c.cap = min c.size 100 := rfl
  by_cases h7 : c.q m = none ∧ c.cap ≤ c.dirty.length
  · have hcode : c.wcode m b.length = 7 := by unfold Csh.wcode; rw [if_neg hnn, if_neg (by omega)]; exact if_pos h7
    rw [hcode, if_neg (by omega)]
    rcases hat with ⟨i, rfl, hi, hin⟩ | ⟨rfl, hno⟩
    · rw [Csh.group_at h.grp hok hi (hin hi)] at h7; cases h7.1
    · have hroom2 := h7.2
      simp (maxSteps := 1000000) (disch := omega) only [↓sy1, sy2, sy3, readOK, sy5, sy6, Nat.reduceEqDiff, ↓reduceIte, sy7, sy8, sy9, sya, oneOf, syb, syc, Nat.reduceAdd, Nat.reduceMul, syd, sye, syf, syg, syh, reduceCtorEq, show ((-1 : Int) < 0) from by omega, decide_true, c0, c2, hdl]
      first
        | refine ⟨call0 (rcapacity_spec h2.log) ?_, call0 (rcapacity_spec h2.log) ?_, call0 (rcapacity_spec h2.log) ?_⟩
        | refine ⟨call0 (rcapacity_spec h2.log) ?_, call0 (rcapacity_spec h2.log) ?_⟩
      all_goals
       rintro _ w3 ⟨rfl, rfl⟩
       simp (maxSteps := 1000000) (disch := omega) only [↓sy1, sy2, sy3, readOK, sy5, sy6, Nat.reduceEqDiff, ↓reduceIte, sy7, sy8, sy9, sya, oneOf, syb, syc, Nat.reduceAdd, Nat.reduceMul, syd, sye, syf, syg, syh, reduceCtorEq, show (((min c.size 100 : Nat) : Int) ≤ (ps.length : Int)) from by omega, decide_true, c0, c2, hdl]
       exact R_out ⟨G, ps, h2, .grow hg2⟩
  have hcode : c.wcode m b.length = 0 := by unfold Csh.wcode; rw [if_neg hnn, if_neg (by omega)]; exact if_neg h7
  have hokw := hok.write hcode
  rw [hcode, if_pos rfl]
  rcases hat with ⟨i, rfl, hi, hin⟩ | ⟨rfl, hno⟩
  all_goals first
    | (
      simp (maxSteps := 1000000) (disch := omega) only [↓sy1, sy2, sy3, readOK, sy5, sy6, Nat.reduceEqDiff, ↓reduceIte, sy7, sy8, sy9, sya, oneOf, syb, syc, Nat.reduceAdd, Nat.reduceMul, syd, sye, syf, syg, syh, reduceCtorEq, show ¬ ((i : Int) < 0) from by omega, decide_false, c0, c2, hdl]
      first
        | refine ⟨?_, ?_, ?_⟩
        | refine ⟨?_, ?_⟩)
    | (
      have hq := Csh.group_none h.grp hok hno
      have hroom2 : ¬ (c.cap ≤ c.dirty.length) := fun hh => h7 ⟨hq, hh⟩
      simp (maxSteps := 1000000) (disch := omega) only [↓sy1, sy2, sy3, readOK, sy5, sy6, Nat.reduceEqDiff, ↓reduceIte, sy7, sy8, sy9, sya, oneOf, syb, syc, Nat.reduceAdd, Nat.reduceMul, syd, sye, syf, syg, syh, reduceCtorEq, show ((-1 : Int) < 0) from by omega, decide_true, c0, c2, hdl]
      first
        | refine ⟨call0 (rcapacity_spec h2.log) ?_, call0 (rcapacity_spec h2.log) ?_, call0 (rcapacity_spec h2.log) ?_⟩
        | refine ⟨call0 (rcapacity_spec h2.log) ?_, call0 (rcapacity_spec h2.log) ?_⟩
      all_goals
        rintro _ w2' ⟨rfl, rfl⟩
        simp (maxSteps := 1000000) (disch := omega) only [↓sy1, sy2, sy3, readOK, sy5, sy6, Nat.reduceEqDiff, ↓reduceIte, sy7, sy8, sy9, sya, oneOf, syb, syc, Nat.reduceAdd, Nat.reduceMul, syd, sye, syf, syg, syh, reduceCtorEq, show ¬ (((min c.size 100 : Nat) : Int) ≤ (ps.length : Int)) from by omega, decide_false, c0, c2, hdl])
  all_goals
    refine loop_rule (fun e w' => ∃ (i : Nat) (xs : List Value), i ≤ ps.length ∧ e 8 = .int .i64 i ∧ e 0 = .pointer (some ⟨r, 0, none⟩) ∧ e 1 = .int .i64 m ∧ e 2 = bv ∧ w'.ownsRow w2'.heap.size 105 2 (e 7) ((ps.take i).filter (fun p => decide (p.1 ≠ (m : Int)))).length xs ∧ PCells G w2' xs ((ps.take i).filter (fun p => decide (p.1 ≠ (m : Int)))) ∧ Grow w2' w') (fun e _ => ps.length - (intOf (e 8)).toNat)
      ⟨0, [], by omega, by simp [upd, updO, ev], by simp [upd, updO, ev], by simp [upd, updO, ev], by simp [upd, updO, ev], by simpa [upd, updO, ev] using World.ownsRow_nil w2' _ _ _, by simpa using PCells.nil _ _, Keep.refl _ _⟩ ?_
    rintro e w3 ⟨i, xs, hi, e8, e0, e1, e2, ho3, hp3, hg3⟩
    obtain ⟨c0', c1', c2', c3', hdv', hrv'⟩ := hc (hg2.trans hg3)
    have hfl := List.length_filter_le (fun p : Pg => decide (p.1 ≠ (m : Int))) (ps.take i)
    rw [List.length_take] at hfl
    by_cases hlt : i < ps.length
    · obtain ⟨b', o', u, hia, hcn, hcu, _⟩ := hdv'.parts hlt
      obtain ⟨b2, o2, u2, hia2, _, hcu2, hz2⟩ := hdv.parts hlt
      rw [hia] at hia2; cases hia2
      have huu : u = u2 := by
        have := hg3.gcell hcu2
        rw [hcu] at this; exact Option.some.inj this
      subst huu
      have huc := hz2.1.isCell
      have htk : ps.take (i + 1) = ps.take i ++ [ps[i]] := List.take_succ_eq_append_getElem hlt
      by_cases hne : ps[i].1 = (m : Int)
      · simp (maxSteps := 1000000) (disch := omega) only [↓sy1, sy2, sy3, readOK, sy5, sy6, Nat.reduceEqDiff, ↓reduceIte, sy7, sy8, sy9, sya, oneOf, syb, syc, Nat.reduceAdd, Nat.reduceMul, syd, sye, syf, syg, syh, reduceCtorEq, F34_L0, e8, e0, e1, e2, c2', hdl, Int.ofNat_lt, hlt, decide_true, hia, hcn, hne, Bool.not_true]
        refine R_out ⟨⟨i + 1, xs, by omega, rfl, ?_, ?_, hg3⟩, by simp only [intOf]; omega⟩
        · rw [htk, List.filter_append, show [ps[i]].filter (fun p => decide (p.1 ≠ (m : Int))) = [] from by simp [hne], List.append_nil]; exact ho3
        · rw [htk, List.filter_append, show [ps[i]].filter (fun p => decide (p.1 ≠ (m : Int))) = [] from by simp [hne], List.append_nil]; exact hp3
      · simp (maxSteps := 1000000) (disch := omega) only [↓sy1, sy2, sy3, readOK, sy5, sy6, Nat.reduceEqDiff, ↓reduceIte, sy7, sy8, sy9, sya, oneOf, syb, syc, Nat.reduceAdd, Nat.reduceMul, syd, sye, syf, syg, syh, reduceCtorEq, F34_L0, e8, e0, e1, e2, c2', hdl, Int.ofNat_lt, hlt, decide_true, hia, hcn, hne, decide_false, Bool.not_false, loadN2 hcn hcu, fill_of2, fillF_p (a := .int .i64 0) (b := .slice none 0 0)]
        have hga : Grow w3 (w3.alloc (.cells #[.int .i64 ps[i].1, u] 105)) := (Keep.refl _ _).alloc _
        refine app_own elemPg (by simp only [upd_at, Nat.reduceEqDiff, reduceIte, ev_tmp, ev_const, List.map_cons, List.map_nil]) (by simp only [upd_at, Nat.reduceEqDiff, reduceIte, ev_tmp, ev_const, List.map_cons, List.map_nil]) (own_keepk ho3 hga (fun _ _ => id)) Has.newp (m := 1) rfl (by simpa [isCell] using huc) (by omega) (by omega) (by have := hg3.size; have := hga.size; omega) ?_
        intro out' w4 ho4 hg4
        simp (maxSteps := 1000000) (disch := omega) only [↓sy1, sy2, sy3, readOK, sy5, sy6, Nat.reduceEqDiff, ↓reduceIte, sy7, sy8, sy9, sya, oneOf, syb, syc, Nat.reduceAdd, Nat.reduceMul, syd, sye, syf, syg, syh, reduceCtorEq, e8, e0, e1, e2]
        refine R_out ⟨⟨i + 1, xs ++ [.int .i64 ps[i].1, u], by omega, rfl, ?_, ?_, ?_⟩, by simp only [intOf]; omega⟩
        · rw [htk, List.filter_append, show [ps[i]].filter (fun p => decide (p.1 ≠ (m : Int))) = [ps[i]] from by simp [hne], List.length_append, List.length_singleton]; exact ho4
        · rw [htk, List.filter_append, show [ps[i]].filter (fun p => decide (p.1 ≠ (m : Int))) = [ps[i]] from by simp [hne]]; exact hp3.snoc hz2
        · exact (hg3.trans hga).then (Keep.grown hg4) (fun b hb hc => by have := (World.ownsRow.lt ho3 b hc.symm).1; omega)
    · have hie : i = ps.length := by omega
      rw [hie, List.take_length] at ho3 hp3 hfl
      simp (maxSteps := 1000000) (disch := omega) only [↓sy1, sy2, sy3, readOK, sy5, sy6, Nat.reduceEqDiff, ↓reduceIte, sy7, sy8, sy9, sya, oneOf, syb, syc, Nat.reduceAdd, Nat.reduceMul, syd, sye, syf, syg, syh, reduceCtorEq, F34_L0, e8, e0, e1, e2, c2', hdl, Int.ofNat_lt, hlt, decide_false]
      refine call0 (copy_spec bv b _ (hb.grow (hg2.trans hg3)) hl) ?_
      rintro u w4 ⟨hu, hg4⟩
      have huc := (Has.own hu).isCell
      simp (maxSteps := 1000000) (disch := omega) only [↓sy1, sy2, sy3, readOK, sy5, sy6, Nat.reduceEqDiff, ↓reduceIte, sy7, sy8, sy9, sya, oneOf, syb, syc, Nat.reduceAdd, Nat.reduceMul, syd, sye, syf, syg, syh, reduceCtorEq, fill_gen, fillF_2 (a := .int .i64 0) (b := .slice none 0 0) (u := .int .i64 (m : Int)) rfl huc, fill_of2, fillF_p (a := .int .i64 0) (b := .slice none 0 0)]
      have hga : Grow w4 (w4.alloc (.cells #[.int .i64 (m : Int), u] 105)) := (Keep.refl _ _).alloc _
      have hs3 := hg3.size
      have hs4 := hg4.size
      refine app_own elemPg (by simp only [upd_at, Nat.reduceEqDiff, reduceIte, ev_tmp, ev_const, List.map_cons, List.map_nil, e0]) (by simp only [upd_at, Nat.reduceEqDiff, reduceIte, ev_tmp, ev_const, List.map_cons, List.map_nil]) (own_keepk (own_keepk ho3 hg4 (fun _ _ => id)) hga (fun _ _ => id)) Has.newp (m := 1) rfl (by simpa [isCell] using huc) (by omega) (by omega) (by have := hga.size; omega) ?_
      intro out' w5 ho5 hg5
      have hk5 : Keep (fun b => some b = (e 7).ownBlock) w4 w5 := (Keep.grow hga).trans (Keep.grown hg5)
      have hg25 : Grow w2' w5 := (hg3.trans hg4).then hk5 (fun b hb hc => by have := (World.ownsRow.lt ho3 b hc.symm).1; omega)
      have hx5 : Ext0 G w2' (G.new w2'.heap.size) w5 := .newB hg25
      have hu5 : w5.ownsRow w3.heap.size 5 1 u b.length (bs b) := own_keep hu hk5 (fun q hq hc => by
        have h1 := (World.ownsRow.lt hu q hq).1
        have h2 := (World.ownsRow.lt ho3 q hc.symm).2
        omega)
      have hzu : Zero (G.new w2'.heap.size) w5 u (bs b) := .of_own hu5 (fun q hq => Gh.new_own (by omega))
      have hpc := (hp3.ext hx5 id).snoc (p := ((m : Int), b)) hzu
      have hpz : PagesZ (G.new w2'.heap.size) w5 out' (wrote ps m b) := ⟨_, Has.own ho5, fun q hq _ => ⟨(World.ownsRow.lt ho5 q hq).2, Gh.new_own (World.ownsRow.lt ho5 q hq).1⟩, hpc.1, hpc.2⟩
      have h5 := h2.ext hx5 id id id
      have hno : ∀ q, w2'.heap.size ≤ q → (G.new w2'.heap.size).own q = 0 := fun q hq => Gh.new_own hq
      have hs5 := hg25.size
      generalize G.new w2'.heap.size = G5 at hx5 hpz h5 hno hzu hpc
      obtain ⟨dv5, rv5, hb5, ho5', hf5, _, hrv5⟩ := h5.at_
      obtain ⟨w6, hst6, hb6, hk6⟩ := cell_store hb5 (i := 2) (by simp) (u := out') (Has.own ho5).isCell
      have hb6' : w6.heap[r]? = some (.cells #[.pointer (some ⟨rq, 0, none⟩), .int .i64 c.most, out', rv5] 46 (0, 0)) := by simpa using hb6
      have hx6 : Ext (fun x => x = μ) G5 w5 G5 w6 := .on0 hk6 ho5' hf5
      have h0μ : ¬ (0 = μ) := fun hh => h.ne0 hh.symm
      have hrv6 := hrv5.ext hx6 h0μ
      have q3 : w6.cell? ⟨r, 3, none⟩ = some rv5 := by rw [cell_block hb6']; rfl
      simp (maxSteps := 1000000) (disch := omega) only [↓sy1, sy2, sy3, readOK, sy5, sy6, Nat.reduceEqDiff, ↓reduceIte, sy7, sy8, sy9, sya, oneOf, syb, syc, Nat.reduceAdd, Nat.reduceMul, syd, sye, syf, syg, syh, reduceCtorEq, e0, e1, e2, hst6, q3]
      refine call0 (without_spec (n := m) hrv6.1 (by omega)) ?_
      rintro ov w7 ⟨hov, hg7⟩
      have hb7 := hg7.gheap hb6'
      obtain ⟨w8, hst8, hb8, hk8⟩ := cell_store hb7 (i := 3) (by simp) (u := ov) (Has.own hov).isCell
      have hb8' : w8.heap[r]? = some (.cells #[.pointer (some ⟨rq, 0, none⟩), .int .i64 c.most, out', ov] 46 (0, 0)) := by simpa using hb8
      have hx8 : Ext (fun x => x = μ) G5 w7 G5 w8 := .on0 hk8 ho5' hf5
      have hs6 := hx6.size
      have hzo : Zero G5 w7 ov (ints (zs (c.row.filter fun k => decide (k ≠ m)))) := .of_own hov (fun q hq => hno q (by omega))
      simp (maxSteps := 1000000) (disch := omega) only [↓sy1, sy2, sy3, readOK, sy5, sy6, Nat.reduceEqDiff, ↓reduceIte, sy7, sy8, sy9, sya, oneOf, syb, syc, Nat.reduceAdd, Nat.reduceMul, syd, sye, syf, syg, syh, reduceCtorEq, e0, e1, e2, hst8]
      have hx58 : Ext (fun x => x = μ) G5 w5 G5 w8 := (hx6.trans (.grow hg7)).trans hx8
      have h8 := h5.log.ext hx58 h.ne h0μ
      exact R_out ⟨G5, wrote ps m b, ⟨hokw, h.ne, h.ne0, Csh.write_group hok h.grp hokw, h8, out', ov, hb8', ho5', hf5, hpz.ext hx58 h0μ, hzo.ext hx8 h0μ⟩, (((Ext.grow hg2).trans hx5).mono (fun _ h => h.elim)).trans hx58⟩
end
/-! A nil cache of the reference. -/
section
variable {w : World}
theorem rcread_nil {n : Int} : Calls Tryz.prog 32 #[.pointer none, .int .i64 n] w (Ret fun v w' => v = .tuple #[.slice none 0 0, .int .i64 1] ∧ w' = w) := by
  apply enter32
  apply R_in
  simp (maxSteps := 1000000) (disch := omega) only [↓sy1, sy2, sy3, readOK, sy5, sy6, Nat.reduceEqDiff, ↓reduceIte, sy7, sy8, sy9, sya, oneOf, syb, syc, Nat.reduceAdd, Nat.reduceMul, syd, sye, syf, syg, syh, reduceCtorEq, F32]
  exact R_out trivial
theorem rcwrite_nil {n : Int} {v : Value} : Calls Tryz.prog 34 #[.pointer none, .int .i64 n, v] w (Ret fun v w' => v = .int .i64 1 ∧ w' = w) := by
  apply enter34
  apply R_in
  simp (maxSteps := 1000000) (disch := omega) only [↓sy1, sy2, sy3, readOK, sy5, sy6, Nat.reduceEqDiff, ↓reduceIte, sy7, sy8, sy9, sya, oneOf, syb, syc, Nat.reduceAdd, Nat.reduceMul, syd, sye, syf, syg, syh, reduceCtorEq, F34]
  exact R_out trivial
theorem rccommit_nil : Calls Tryz.prog 35 #[.pointer none] w (Ret fun v w' => v = .int .i64 1 ∧ w' = w) := by
  apply enter35
  apply R_in
  simp (maxSteps := 1000000) (disch := omega) only [↓sy1, sy2, sy3, readOK, sy5, sy6, Nat.reduceEqDiff, ↓reduceIte, sy7, sy8, sy9, sya, oneOf, syb, syc, Nat.reduceAdd, Nat.reduceMul, syd, sye, syf, syg, syh, reduceCtorEq, F35]
  exact R_out trivial
theorem rcabort_nil : Calls Tryz.prog 37 #[.pointer none] w (Ret fun v w' => v = .int .i64 0 ∧ w' = w) := by
  apply enter37
  apply R_in
  simp (maxSteps := 1000000) (disch := omega) only [↓sy1, sy2, sy3, readOK, sy5, sy6, Nat.reduceEqDiff, ↓reduceIte, sy7, sy8, sy9, sya, oneOf, syb, syc, Nat.reduceAdd, Nat.reduceMul, syd, sye, syf, syg, syh, reduceCtorEq, F37]
  exact R_out trivial
theorem rcroom_nil : Calls Tryz.prog 13 #[.pointer none] w (Ret fun v w' => v = .int .i64 0 ∧ w' = w) := by
  apply enter13
  apply R_in
  simp (maxSteps := 1000000) (disch := omega) only [↓sy1, sy2, sy3, readOK, sy5, sy6, Nat.reduceEqDiff, ↓reduceIte, sy7, sy8, sy9, sya, oneOf, syb, syc, Nat.reduceAdd, Nat.reduceMul, syd, sye, syf, syg, syh, reduceCtorEq, F13]
  exact R_out trivial
theorem rccached_nil : Calls Tryz.prog 9 #[.pointer none] w (Ret fun v w' => v = .slice none 0 0 ∧ w' = w) := by
  apply enter9
  apply R_in
  simp (maxSteps := 1000000) (disch := omega) only [↓sy1, sy2, sy3, readOK, sy5, sy6, Nat.reduceEqDiff, ↓reduceIte, sy7, sy8, sy9, sya, oneOf, syb, syc, Nat.reduceAdd, Nat.reduceMul, syd, sye, syf, syg, syh, reduceCtorEq, F9, Bool.not_true]
  exact R_out trivial
end
end Go.Proofs.YtgmodahpcpepjaaGreat

/- Rows of the law's deeds in memory. -/
namespace Go.Proofs.YtgmodahpcpepjaaGreat
open Go
set_option linter.unusedSimpArgs false
def Deed4.cells (x : Deed4) : List Value := [.int .i64 x.kind, .int .i64 x.page, .int .u8 (x.byte.toNat : Int), .bool x.short]
abbrev HasD4 (w : World) (v : Value) (l : List Deed4) := Has 4 w v (l.flatMap Deed4.cells)
theorem deeds4_length (l : List Deed4) : (l.flatMap Deed4.cells).length = l.length * 4 := by
  induction l with
  | nil => rfl
  | cons x l ih => rw [List.flatMap_cons, List.length_append, ih]; simp [Deed4.cells]; omega
theorem deeds4_get : ∀ (l : List Deed4) (i : Nat) (h : i < l.length), (l.flatMap Deed4.cells)[i * 4]? = some (.int .i64 l[i].kind) ∧ (l.flatMap Deed4.cells)[i * 4 + 1]? = some (.int .i64 l[i].page) ∧ (l.flatMap Deed4.cells)[i * 4 + 2]? = some (.int .u8 (l[i].byte.toNat : Int)) ∧ (l.flatMap Deed4.cells)[i * 4 + 3]? = some (.bool l[i].short)
  | x :: l, 0, _ => by simp [Deed4.cells]
  | x :: l, i + 1, h => by
    have ih := deeds4_get l i (by simpa using h)
    rw [List.flatMap_cons, show (i + 1) * 4 = (x.cells).length + i * 4 from by simp [Deed4.cells]; omega]
    refine ⟨?_, ?_, ?_, ?_⟩
    · rw [List.getElem?_append_right (by omega), Nat.add_sub_cancel_left]; exact ih.1
    · rw [List.getElem?_append_right (by omega), Nat.add_assoc, Nat.add_sub_cancel_left]; exact ih.2.1
    · rw [List.getElem?_append_right (by omega), Nat.add_assoc, Nat.add_sub_cancel_left]; exact ih.2.2.1
    · rw [List.getElem?_append_right (by omega), Nat.add_assoc, Nat.add_sub_cancel_left]; exact ih.2.2.2
theorem HasD4.lenD {w : World} {v : Value} {l : List Deed4} (h : HasD4 w v l) (w2 : World) : lenF w2 0 v = some (.int .i64 l.length) := by
  rw [h.lenk (by omega), deeds4_length, Nat.mul_div_cancel _ (by omega)]
theorem HasD4.at {w : World} {v : Value} {l : List Deed4} (h : HasD4 w v l) {i : Nat} (hi : i < l.length) :
    ∃ b o, iaF 4 v (.int .i64 i) = some (.pointer (some ⟨b, o, none⟩)) ∧ ∀ {w'}, Grow w w' → w'.cell? ⟨b, o, none⟩ = some (.int .i64 l[i].kind) ∧ w'.cell? ⟨b, o + 1, none⟩ = some (.int .i64 l[i].page) ∧ w'.cell? ⟨b, o + 2, none⟩ = some (.int .u8 (l[i].byte.toNat : Int)) ∧ w'.cell? ⟨b, o + 3, none⟩ = some (.bool l[i].short) ∧ loadN w' ⟨b, o, none⟩ 0 4 = some [.int .i64 l[i].kind, .int .i64 l[i].page, .int .u8 (l[i].byte.toNat : Int), .bool l[i].short] := by
  obtain ⟨b, o, h5, h6, _⟩ := h.idxk (i := i) (by rw [deeds4_length, Nat.mul_div_cancel _ (by omega)]; exact hi)
  obtain ⟨h7, h8, h9, h10⟩ := deeds4_get l i hi
  obtain ⟨x0, hx0, c0⟩ := h6 0 (by omega)
  obtain ⟨x1, hx1, c1⟩ := h6 1 (by omega)
  obtain ⟨x2, hx2, c2⟩ := h6 2 (by omega)
  obtain ⟨x3, hx3, c3⟩ := h6 3 (by omega)
  rw [Nat.add_zero, h7] at hx0
  rw [h8] at hx1
  rw [h9] at hx2
  rw [h10] at hx3
  cases hx0; cases hx1; cases hx2; cases hx3
  exact ⟨b, o, h5, fun hg => ⟨hg.gcell c0, hg.gcell c1, hg.gcell c2, hg.gcell c3, loadN4 (hg.gcell c0) (hg.gcell c1) (hg.gcell c2) (hg.gcell c3)⟩⟩
end Go.Proofs.YtgmodahpcpepjaaGreat

/- A deed on both caches. -/
namespace Go.Proofs.YtgmodahpcpepjaaGreat
open Go
set_option linter.unusedSimpArgs false
open Go.RowKit (intOf)
abbrev Both (c : Nat) : Prop := c = 2 ∨ c = 3 ∨ c = 7 ∨ c = 8
/-- Behind a deed. -/
def Deed4.onC (x : Deed4) (c : Csh) : Csh :=
  if x.kind = 0 then (if x.page < 0 ∨ (c.N : Int) ≤ x.page then c else c.read x.page.toNat)
  else if x.kind = 1 then (if c.wcode x.page x.data.length = 0 then c.write x.page.toNat x.data else c)
  else if x.kind = 2 then c.commit else c.abort
set_option maxHeartbeats 8000000 in
theorem do4_spec {G : Gh} {w : World} {p lq r rq : Nat} {c : Csh} {ps : List Pg} (h : CacheAt G 2 7 w p lq 0 c) (h' : RCacheAt G 3 8 w r rq 0 c ps) (ho : c.D.ops.length < 600000) (x : Deed4) :
    Calls Tryz.prog 6 #[.pointer (some ⟨p, 0, none⟩), .pointer (some ⟨r, 0, none⟩), x.val] w (Ret fun v w' => v = .bool true ∧ ∃ G' ps', CacheAt G' 2 7 w' p lq 0 (x.onC c) ∧ RCacheAt G' 3 8 w' r rq 0 (x.onC c) ps' ∧ Ext Both G w G' w') := by
  have hcells := agg4_cells (x := .int .i64 x.kind) (y := .int .i64 x.page) (z := .int .u8 (x.byte.toNat : Int)) (u := .bool x.short) rfl rfl rfl rfl
  have hb0 := heap_alloc_new w (.cells #[.int .i64 x.kind, .int .i64 x.page, .int .u8 (x.byte.toNat : Int), .bool x.short] 30)
  have hg0 : Grow w (w.alloc (.cells #[.int .i64 x.kind, .int .i64 x.page, .int .u8 (x.byte.toNat : Int), .bool x.short] 30)) := (Keep.refl _ _).alloc _
  have hdl := x.data_le
  apply enter6
  apply R_in
  rw [Deed4.val]
  simp (maxSteps := 1000000) (disch := omega) only [↓sy1, sy2, sy3, readOK, sy5, sy6, Nat.reduceEqDiff, ↓reduceIte, sy7, sy8, sy9, sya, oneOf, syb, syc, Nat.reduceAdd, Nat.reduceMul, syd, sye, syf, syg, syh, reduceCtorEq, F6, hcells]
  generalize w.alloc (.cells #[.int .i64 x.kind, .int .i64 x.page, .int .u8 (x.byte.toNat : Int), .bool x.short] 30) = w0 at hb0 hg0 ⊢
  have hx0 : Ext0 G w (G.new w.heap.size) w0 := .newB hg0
  have hB0 : w.heap.size < w0.heap.size := (Array.getElem?_eq_some_iff.1 hb0).1
  have hc0 := h.ext hx0 id id id
  have hr0 := h'.ext hx0 id id id
  have hob : (G.new w.heap.size).own w.heap.size = 0 := Gh.new_own (Nat.le_refl _)
  generalize G.new w.heap.size = G0 at hx0 hc0 hr0 hob
  have hcell : ∀ {G' w'}, Ext Both G0 w0 G' w' → w'.cell? ⟨w.heap.size, 0, none⟩ = some (.int .i64 x.kind) ∧ w'.cell? ⟨w.heap.size, 1, none⟩ = some (.int .i64 x.page) ∧ loadN w' ⟨w.heap.size, 0, none⟩ 0 4 = some [.int .i64 x.kind, .int .i64 x.page, .int .u8 (x.byte.toNat : Int), .bool x.short] := fun hx => by
    have hb := hx.heap hb0 (by rw [hob]; omega)
    exact ⟨by rw [cell_block hb]; rfl, by rw [cell_block hb]; rfl, loadN4b hb⟩
  have hcell0 := hcell (.refl _ _ _)
  have hx0' : Ext Both G w G0 w0 := hx0.mono (fun _ h => h.elim)
  by_cases hk0 : x.kind = 0
  · have hon : x.onC c = if x.page < 0 ∨ (c.N : Int) ≤ x.page then c else c.read x.page.toNat := if_pos hk0
    rw [hon]
    simp (maxSteps := 1000000) (disch := omega) only [↓sy1, sy2, sy3, readOK, sy5, sy6, Nat.reduceEqDiff, ↓reduceIte, sy7, sy8, sy9, sya, oneOf, syb, syc, Nat.reduceAdd, Nat.reduceMul, syd, sye, syf, syg, syh, reduceCtorEq, hcell0.1, hcell0.2.1, hk0, decide_true]
    by_cases hr : x.page < 0 ∨ (c.N : Int) ≤ x.page
    · rw [if_pos hr]
      refine call0 (cread_badC hc0 (n := x.page) hr) ?_
      rintro _ w1 ⟨rfl, hg1⟩
      simp (maxSteps := 1000000) (disch := omega) only [↓sy1, sy2, sy3, readOK, sy5, sy6, Nat.reduceEqDiff, ↓reduceIte, sy7, sy8, sy9, sya, oneOf, syb, syc, Nat.reduceAdd, Nat.reduceMul, syd, sye, syf, syg, syh, reduceCtorEq, (hcell (.grow hg1)).2.1]
      refine call0 (rcread_badC (hr0.grow hg1) (n := x.page) hr) ?_
      rintro _ w2 ⟨rfl, hg2⟩
      simp (maxSteps := 1000000) (disch := omega) only [↓sy1, sy2, sy3, readOK, sy5, sy6, Nat.reduceEqDiff, ↓reduceIte, sy7, sy8, sy9, sya, oneOf, syb, syc, Nat.reduceAdd, Nat.reduceMul, syd, sye, syf, syg, syh, reduceCtorEq, decide_true]
      refine call0 (sameBytes_spec _ _ [] [] w2 (Has.nil 1 w2) (Has.nil 1 w2) (by simp)) ?_
      rintro _ w3 ⟨rfl, hg3⟩
      simp (maxSteps := 1000000) (disch := omega) only [↓sy1, sy2, sy3, readOK, sy5, sy6, Nat.reduceEqDiff, ↓reduceIte, sy7, sy8, sy9, sya, oneOf, syb, syc, Nat.reduceAdd, Nat.reduceMul, syd, sye, syf, syg, syh, reduceCtorEq, decide_true]
      exact R_out ⟨G0, ps, ((hc0.grow hg1).grow hg2).grow hg3, ((hr0.grow hg1).grow hg2).grow hg3, hx0'.trans (.grow ((hg1.trans hg2).trans hg3))⟩
    · rw [if_neg hr]
      obtain ⟨m, hm⟩ : ∃ m : Nat, x.page = m := ⟨x.page.toNat, by omega⟩
      rw [hm] at hcell ⊢
      show R _
      refine call0 (cread_strong hc0 (n := m) (by omega)) ?_
      rintro _ w5 ⟨u5, G5, w5a, rfl, hu5, hc5, hx5, hg5⟩
      have hx5' : Ext0 G5 w5a (G5.new w5a.heap.size) w5 := .newB hg5
      have hc5' := hc5.ext hx5' id id id
      have hr5 := (hr0.ext hx5 (by omega) (by omega) (by omega)).ext hx5' id id id
      have hx05 : Ext Both G0 w0 (G5.new w5a.heap.size) w5 := (hx5.mono (by omega)).trans (hx5'.mono (fun _ h => h.elim))
      have hob5 : ∀ b, u5.ownBlock = some b → (G5.new w5a.heap.size).own b = 0 := fun b hb => Gh.new_own (World.ownsRow.lt hu5 b hb).1
      generalize G5.new w5a.heap.size = G5' at hx5' hc5' hr5 hx05 hob5
      simp (maxSteps := 1000000) (disch := omega) only [↓sy1, sy2, sy3, readOK, sy5, sy6, Nat.reduceEqDiff, ↓reduceIte, sy7, sy8, sy9, sya, oneOf, syb, syc, Nat.reduceAdd, Nat.reduceMul, syd, sye, syf, syg, syh, reduceCtorEq, (hcell hx05).2.1]
      refine call0 (rcread_spec hr5 (n := m) (by omega)) ?_
      rintro _ w6 ⟨u6, G6, rfl, hu6, hr6, hx6⟩
      have hu5' := own_keep hu5 hx6.keep (fun b hb hh => by rw [hob5 b hb] at hh; omega)
      have hpl := Csh.page_length h.1 (n := m) (by omega)
      simp (maxSteps := 1000000) (disch := omega) only [↓sy1, sy2, sy3, readOK, sy5, sy6, Nat.reduceEqDiff, ↓reduceIte, sy7, sy8, sy9, sya, oneOf, syb, syc, Nat.reduceAdd, Nat.reduceMul, syd, sye, syf, syg, syh, reduceCtorEq, decide_true]
      refine call0 (sameBytes_spec u5 u6 (c.page m) (c.page m) w6 (Has.own hu5') hu6 (by omega)) ?_
      rintro _ w7 ⟨rfl, hg7⟩
      simp (maxSteps := 1000000) (disch := omega) only [↓sy1, sy2, sy3, readOK, sy5, sy6, Nat.reduceEqDiff, ↓reduceIte, sy7, sy8, sy9, sya, oneOf, syb, syc, Nat.reduceAdd, Nat.reduceMul, syd, sye, syf, syg, syh, reduceCtorEq, decide_true]
      exact R_out ⟨G6, ps, (hc5'.ext hx6 (by omega) (by omega) (by omega)).grow hg7, hr6.grow hg7, ((hx0'.trans hx05).trans (hx6.mono (by omega))).trans (.grow hg7)⟩
  by_cases hk1 : x.kind = 1
  · have hon : x.onC c = if c.wcode x.page x.data.length = 0 then c.write x.page.toNat x.data else c := (if_neg hk0).trans (if_pos hk1)
    rw [hon]
    simp (maxSteps := 1000000) (disch := omega) only [↓sy1, sy2, sy3, readOK, sy5, sy6, Nat.reduceEqDiff, ↓reduceIte, sy7, sy8, sy9, sya, oneOf, syb, syc, Nat.reduceAdd, Nat.reduceMul, syd, sye, syf, syg, syh, reduceCtorEq, hcell0.1, hk1, show ¬ ((1 : Int) = 0) from by omega, decide_true, decide_false]
    refine draw6_0 (fun b => G0.own b = 7) ?_
    have hgd : Grow w0 w0.drew := (Keep.refl _ _).drew
    generalize w0.drew = w5 at hgd ⊢
    have hb0' : ¬ (G0.own w.heap.size = 7) := by rw [hob]; omega
    simp (maxSteps := 1000000) (disch := omega) only [↓sy1, sy2, sy3, readOK, sy5, sy6, Nat.reduceEqDiff, ↓reduceIte, sy7, sy8, sy9, sya, oneOf, syb, syc, Nat.reduceAdd, Nat.reduceMul, syd, sye, syf, syg, syh, reduceCtorEq, PL6_0, (hcell (.grow hgd)).2.1, (hcell (.grow hgd)).2.2, hb0']
    refine ⟨⟨Keep.refl _ _, ?_, Keep.refl _ _, ?_⟩, Keep.refl _ _, Keep.refl _ _, ?_⟩
    all_goals
      refine call0 (d4bytes_spec x) ?_
      rintro bv w6 ⟨hbv, hg6⟩
      have hK6 : Keep (fun b => G0.own b = 7) w5 w6 := hg6.mono (fun _ _ h => h.elim)
      simp (maxSteps := 1000000) (disch := omega) only [↓sy1, sy2, sy3, readOK, sy5, sy6, Nat.reduceEqDiff, ↓reduceIte, sy7, sy8, sy9, sya, oneOf, syb, syc, Nat.reduceAdd, Nat.reduceMul, syd, sye, syf, syg, syh, reduceCtorEq, (hcell (.grow (hgd.trans hg6))).2.2]
      first
        | refine ⟨hK6, ?_, hK6, ?_⟩
        | refine ⟨hK6, ?_⟩
    all_goals
      refine call0 (cwrite_spec ((hc0.grow hgd).grow hg6) (n := x.page) (Has.own hbv) (by omega)) ?_
      rintro _ w7 ⟨rfl, G7, hc7, hx7⟩
      have hK7 : Keep (fun b => G0.own b = 7) w5 w7 := hK6.trans hx7.keep
      have hr7 := ((hr0.grow hgd).grow hg6).ext hx7 (by omega) (by omega) (by omega)
      have hx07 : Ext Both G0 w0 G7 w7 := (Ext.grow (hgd.trans hg6)).trans (hx7.mono (by omega))
      simp (maxSteps := 1000000) (disch := omega) only [↓sy1, sy2, sy3, readOK, sy5, sy6, Nat.reduceEqDiff, ↓reduceIte, sy7, sy8, sy9, sya, oneOf, syb, syc, Nat.reduceAdd, Nat.reduceMul, syd, sye, syf, syg, syh, reduceCtorEq, (hcell hx07).2.2]
      first
        | refine ⟨hK7, hK7, ?_⟩
        | refine ⟨hK7, ?_⟩
    all_goals
      refine call0 (d4bytes_spec x) ?_
      rintro bv2 w8 ⟨hbv2, hg8⟩
      have hK8 : Keep (fun b => G0.own b = 7) w5 w8 := hK7.trans (hg8.mono (fun _ _ h => h.elim))
      simp (maxSteps := 1000000) (disch := omega) only [↓sy1, sy2, sy3, readOK, sy5, sy6, Nat.reduceEqDiff, ↓reduceIte, sy7, sy8, sy9, sya, oneOf, syb, syc, Nat.reduceAdd, Nat.reduceMul, syd, sye, syf, syg, syh, reduceCtorEq]
      refine ⟨hK8, ?_⟩
      refine call0 (rcwrite_spec (hr7.grow hg8) (n := x.page) (Has.own hbv2) (by omega)) ?_
      rintro _ w9 ⟨rfl, G9, ps9, hr9, hx9⟩
      simp (maxSteps := 1000000) (disch := omega) only [↓sy1, sy2, sy3, readOK, sy5, sy6, Nat.reduceEqDiff, ↓reduceIte, sy7, sy8, sy9, sya, oneOf, syb, syc, Nat.reduceAdd, Nat.reduceMul, syd, sye, syf, syg, syh, reduceCtorEq, decide_true]
      exact R_out ⟨G9, ps9, (hc7.grow hg8).ext hx9 (by omega) (by omega) (by omega), hr9, ((hx0'.trans hx07).trans (.grow hg8)).trans (hx9.mono (by omega))⟩
  by_cases hk2 : x.kind = 2
  · have hon : x.onC c = c.commit := (if_neg hk0).trans ((if_neg hk1).trans (if_pos hk2))
    rw [hon]
    simp (maxSteps := 1000000) (disch := omega) only [↓sy1, sy2, sy3, readOK, sy5, sy6, Nat.reduceEqDiff, ↓reduceIte, sy7, sy8, sy9, sya, oneOf, syb, syc, Nat.reduceAdd, Nat.reduceMul, syd, sye, syf, syg, syh, reduceCtorEq, hcell0.1, hk2, show ¬ ((2 : Int) = 0) from by omega, show ¬ ((2 : Int) = 1) from by omega, decide_true, decide_false]
    refine call0 (ccommit_spec hc0 (by omega)) ?_
    rintro _ w5 ⟨rfl, G5, hc5, hx5⟩
    simp (maxSteps := 1000000) (disch := omega) only [↓sy1, sy2, sy3, readOK, sy5, sy6, Nat.reduceEqDiff, ↓reduceIte, sy7, sy8, sy9, sya, oneOf, syb, syc, Nat.reduceAdd, Nat.reduceMul, syd, sye, syf, syg, syh, reduceCtorEq]
    refine call0 (rccommit_spec (hr0.ext hx5 (by omega) (by omega) (by omega)) (by omega)) ?_
    rintro _ w6 ⟨rfl, G6, hr6, hx6⟩
    simp (maxSteps := 1000000) (disch := omega) only [↓sy1, sy2, sy3, readOK, sy5, sy6, Nat.reduceEqDiff, ↓reduceIte, sy7, sy8, sy9, sya, oneOf, syb, syc, Nat.reduceAdd, Nat.reduceMul, syd, sye, syf, syg, syh, reduceCtorEq, decide_true]
    exact R_out ⟨G6, [], hc5.ext hx6 (by omega) (by omega) (by omega), hr6, (hx0'.trans (hx5.mono (by omega))).trans (hx6.mono (by omega))⟩
  · have hon : x.onC c = c.abort := (if_neg hk0).trans ((if_neg hk1).trans (if_neg hk2))
    rw [hon]
    simp (maxSteps := 1000000) (disch := omega) only [↓sy1, sy2, sy3, readOK, sy5, sy6, Nat.reduceEqDiff, ↓reduceIte, sy7, sy8, sy9, sya, oneOf, syb, syc, Nat.reduceAdd, Nat.reduceMul, syd, sye, syf, syg, syh, reduceCtorEq, hcell0.1, hk0, hk1, hk2, decide_true, decide_false]
    refine call0 (abort_spec hc0) ?_
    rintro _ w5 ⟨rfl, hc5, hx5⟩
    simp (maxSteps := 1000000) (disch := omega) only [↓sy1, sy2, sy3, readOK, sy5, sy6, Nat.reduceEqDiff, ↓reduceIte, sy7, sy8, sy9, sya, oneOf, syb, syc, Nat.reduceAdd, Nat.reduceMul, syd, sye, syf, syg, syh, reduceCtorEq]
    refine call0 (rcabort_spec (hr0.ext hx5 (by omega) (by omega) (by omega))) ?_
    rintro _ w6 ⟨rfl, hr6, hx6⟩
    simp (maxSteps := 1000000) (disch := omega) only [↓sy1, sy2, sy3, readOK, sy5, sy6, Nat.reduceEqDiff, ↓reduceIte, sy7, sy8, sy9, sya, oneOf, syb, syc, Nat.reduceAdd, Nat.reduceMul, syd, sye, syf, syg, syh, reduceCtorEq, decide_true]
    exact R_out ⟨G0, [], hc5.ext hx6 (by omega) (by omega) (by omega), hr6, (hx0'.trans (hx5.mono (by omega))).trans (hx6.mono (by omega))⟩
end Go.Proofs.YtgmodahpcpepjaaGreat

/- No caches: they are opened, a deed on both. -/
namespace Go.Proofs.YtgmodahpcpepjaaGreat
open Go
set_option linter.unusedSimpArgs false
open Go.RowKit (intOf)
theorem copen_bad {w : World} {size : Nat} {most : Int} (h1 : 1 ≤ size) (h2 : size ≤ 100) (hm : most < 1 ∨ 64 < most) :
    Calls Tryz.prog 4 #[.int .i64 size, .int .i64 most] w (Ret fun v w' => v = .tuple #[.pointer none, .pointer none, .bool true] ∧ Grow w w') := by
  apply enter4
  apply R_in
  simp (maxSteps := 1000000) (disch := omega) only [↓sy1, sy2, sy3, readOK, sy5, sy6, Nat.reduceEqDiff, ↓reduceIte, sy7, sy8, sy9, sya, oneOf, syb, syc, Nat.reduceAdd, Nat.reduceMul, syd, sye, syf, syg, syh, reduceCtorEq, F4]
  rw [show (size : Int) + 12 = ((size + 12 : Nat) : Int) from by omega]
  refine call0 (new_spec G00 1 (n := size + 12) (by omega) (by omega)) ?_
  rintro _ w1 ⟨p, G1, rfl, hp1, hd1, hx1⟩
  simp (maxSteps := 1000000) (disch := omega) only [↓sy1, sy2, sy3, readOK, sy5, sy6, Nat.reduceEqDiff, ↓reduceIte, sy7, sy8, sy9, sya, oneOf, syb, syc, Nat.reduceAdd, Nat.reduceMul, syd, sye, syf, syg, syh, reduceCtorEq]
  rw [show (size : Int) + 12 = ((size + 12 : Nat) : Int) from by omega]
  refine call0 (rnew_spec G1 2 (n := size + 12) (by omega) (by omega)) ?_
  rintro _ w2 ⟨r, G2, rfl, hr1, hr2, hx2⟩
  simp (maxSteps := 1000000) (disch := omega) only [↓sy1, sy2, sy3, readOK, sy5, sy6, Nat.reduceEqDiff, ↓reduceIte, sy7, sy8, sy9, sya, oneOf, syb, syc, Nat.reduceAdd, Nat.reduceMul, syd, sye, syf, syg, syh, reduceCtorEq]
  refine call0 (open_spec 4 (by omega) (hd1.ext hx2 id) h1 (by rw [zero_len]; omega) (.inl (zero_image (by omega)))) ?_
  rintro _ w3 ⟨q, G3, rfl, hq3, hl3, hx3⟩
  simp (maxSteps := 1000000) (disch := omega) only [↓sy1, sy2, sy3, readOK, sy5, sy6, Nat.reduceEqDiff, ↓reduceIte, sy7, sy8, sy9, sya, oneOf, syb, syc, Nat.reduceAdd, Nat.reduceMul, syd, sye, syf, syg, syh, reduceCtorEq]
  refine call0 (ropen0_spec 5 (by omega) (hr2.ext hx3 id) h1 (by rw [zero_len]; omega) (zero_image (by omega))) ?_
  rintro _ w4 ⟨r4, G4, rfl, hr4, hl4, hx4⟩
  simp (maxSteps := 1000000) (disch := omega) only [↓sy1, sy2, sy3, readOK, sy5, sy6, Nat.reduceEqDiff, ↓reduceIte, sy7, sy8, sy9, sya, oneOf, syb, syc, Nat.reduceAdd, Nat.reduceMul, syd, sye, syf, syg, syh, reduceCtorEq]
  refine call0 (cnew_bad (v := .nilIface) hm) ?_
  rintro _ w5 ⟨rfl, rfl⟩
  simp (maxSteps := 1000000) (disch := omega) only [↓sy1, sy2, sy3, readOK, sy5, sy6, Nat.reduceEqDiff, ↓reduceIte, sy7, sy8, sy9, sya, oneOf, syb, syc, Nat.reduceAdd, Nat.reduceMul, syd, sye, syf, syg, syh, reduceCtorEq]
  refine call0 (rcnew_bad hm) ?_
  rintro _ w6 ⟨rfl, rfl⟩
  simp (maxSteps := 1000000) (disch := omega) only [↓sy1, sy2, sy3, readOK, sy5, sy6, Nat.reduceEqDiff, ↓reduceIte, sy7, sy8, sy9, sya, oneOf, syb, syc, Nat.reduceAdd, Nat.reduceMul, syd, sye, syf, syg, syh, reduceCtorEq, decide_true, beq_self_eq_true]
  exact R_out ((((hx1.trans hx2).trans hx3).trans hx4).toGrow id)
theorem do4_nil {w : World} (x : Deed4) :
    Calls Tryz.prog 6 #[.pointer none, .pointer none, x.val] w (Ret fun v w' => v = .bool true ∧ Grow w w') := by
  have hcells := agg4_cells (x := .int .i64 x.kind) (y := .int .i64 x.page) (z := .int .u8 (x.byte.toNat : Int)) (u := .bool x.short) rfl rfl rfl rfl
  have hb0 := heap_alloc_new w (.cells #[.int .i64 x.kind, .int .i64 x.page, .int .u8 (x.byte.toNat : Int), .bool x.short] 30)
  have hg0 : Grow w (w.alloc (.cells #[.int .i64 x.kind, .int .i64 x.page, .int .u8 (x.byte.toNat : Int), .bool x.short] 30)) := (Keep.refl _ _).alloc _
  apply enter6
  apply R_in
  rw [Deed4.val]
  simp (maxSteps := 1000000) (disch := omega) only [↓sy1, sy2, sy3, readOK, sy5, sy6, Nat.reduceEqDiff, ↓reduceIte, sy7, sy8, sy9, sya, oneOf, syb, syc, Nat.reduceAdd, Nat.reduceMul, syd, sye, syf, syg, syh, reduceCtorEq, F6, hcells]
  generalize w.alloc (.cells #[.int .i64 x.kind, .int .i64 x.page, .int .u8 (x.byte.toNat : Int), .bool x.short] 30) = w0 at hb0 hg0 ⊢
  have hcell : ∀ {w'}, Grow w0 w' → w'.cell? ⟨w.heap.size, 0, none⟩ = some (.int .i64 x.kind) ∧ w'.cell? ⟨w.heap.size, 1, none⟩ = some (.int .i64 x.page) ∧ loadN w' ⟨w.heap.size, 0, none⟩ 0 4 = some [.int .i64 x.kind, .int .i64 x.page, .int .u8 (x.byte.toNat : Int), .bool x.short] := fun hg => by
    have hb := hg.gheap hb0
    exact ⟨by rw [cell_block hb]; rfl, by rw [cell_block hb]; rfl, loadN4b hb⟩
  have hcell0 := hcell (Keep.refl _ _)
  by_cases hk0 : x.kind = 0
  · simp (maxSteps := 1000000) (disch := omega) only [↓sy1, sy2, sy3, readOK, sy5, sy6, Nat.reduceEqDiff, ↓reduceIte, sy7, sy8, sy9, sya, oneOf, syb, syc, Nat.reduceAdd, Nat.reduceMul, syd, sye, syf, syg, syh, reduceCtorEq, hcell0.1, hcell0.2.1, hk0, decide_true]
    refine call0 cread_nil ?_
    rintro _ w1 ⟨rfl, rfl⟩
    simp (maxSteps := 1000000) (disch := omega) only [↓sy1, sy2, sy3, readOK, sy5, sy6, Nat.reduceEqDiff, ↓reduceIte, sy7, sy8, sy9, sya, oneOf, syb, syc, Nat.reduceAdd, Nat.reduceMul, syd, sye, syf, syg, syh, reduceCtorEq, hcell0.2.1]
    refine call0 rcread_nil ?_
    rintro _ w2 ⟨rfl, rfl⟩
    simp (maxSteps := 1000000) (disch := omega) only [↓sy1, sy2, sy3, readOK, sy5, sy6, Nat.reduceEqDiff, ↓reduceIte, sy7, sy8, sy9, sya, oneOf, syb, syc, Nat.reduceAdd, Nat.reduceMul, syd, sye, syf, syg, syh, reduceCtorEq, decide_true]
    refine call0 (sameBytes_spec _ _ [] [] w2 (Has.nil 1 w2) (Has.nil 1 w2) (by simp)) ?_
    rintro _ w3 ⟨rfl, hg3⟩
    simp (maxSteps := 1000000) (disch := omega) only [↓sy1, sy2, sy3, readOK, sy5, sy6, Nat.reduceEqDiff, ↓reduceIte, sy7, sy8, sy9, sya, oneOf, syb, syc, Nat.reduceAdd, Nat.reduceMul, syd, sye, syf, syg, syh, reduceCtorEq, decide_true]
    exact R_out (hg0.trans hg3)
  by_cases hk1 : x.kind = 1
  · simp (maxSteps := 1000000) (disch := omega) only [↓sy1, sy2, sy3, readOK, sy5, sy6, Nat.reduceEqDiff, ↓reduceIte, sy7, sy8, sy9, sya, oneOf, syb, syc, Nat.reduceAdd, Nat.reduceMul, syd, sye, syf, syg, syh, reduceCtorEq, hcell0.1, hk1, show ¬ ((1 : Int) = 0) from by omega, decide_true, decide_false]
    refine draw6_0 (fun _ => False) ?_
    have hgd : Grow w0 w0.drew := (Keep.refl _ _).drew
    generalize w0.drew = w5 at hgd ⊢
    simp (maxSteps := 1000000) (disch := omega) only [↓sy1, sy2, sy3, readOK, sy5, sy6, Nat.reduceEqDiff, ↓reduceIte, sy7, sy8, sy9, sya, oneOf, syb, syc, Nat.reduceAdd, Nat.reduceMul, syd, sye, syf, syg, syh, reduceCtorEq, PL6_0, (hcell hgd).2.1, (hcell hgd).2.2]
    refine ⟨⟨Keep.refl _ _, ?_, Keep.refl _ _, ?_⟩, Keep.refl _ _, Keep.refl _ _, ?_⟩
    all_goals
      refine call0 (d4bytes_spec x) ?_
      rintro bv w6 ⟨hbv, hg6⟩
      simp (maxSteps := 1000000) (disch := omega) only [↓sy1, sy2, sy3, readOK, sy5, sy6, Nat.reduceEqDiff, ↓reduceIte, sy7, sy8, sy9, sya, oneOf, syb, syc, Nat.reduceAdd, Nat.reduceMul, syd, sye, syf, syg, syh, reduceCtorEq, (hcell (hgd.trans hg6)).2.2]
      first
        | refine ⟨hg6, ?_, hg6, ?_⟩
        | refine ⟨hg6, ?_⟩
    all_goals
      refine call0 cwrite_nil ?_
      rintro _ w7 ⟨rfl, rfl⟩
      simp (maxSteps := 1000000) (disch := omega) only [↓sy1, sy2, sy3, readOK, sy5, sy6, Nat.reduceEqDiff, ↓reduceIte, sy7, sy8, sy9, sya, oneOf, syb, syc, Nat.reduceAdd, Nat.reduceMul, syd, sye, syf, syg, syh, reduceCtorEq, (hcell (hgd.trans hg6)).2.2]
      first
        | refine ⟨hg6, hg6, ?_⟩
        | refine ⟨hg6, ?_⟩
    all_goals
      refine call0 (d4bytes_spec x) ?_
      rintro bv2 w8 ⟨hbv2, hg8⟩
      simp (maxSteps := 1000000) (disch := omega) only [↓sy1, sy2, sy3, readOK, sy5, sy6, Nat.reduceEqDiff, ↓reduceIte, sy7, sy8, sy9, sya, oneOf, syb, syc, Nat.reduceAdd, Nat.reduceMul, syd, sye, syf, syg, syh, reduceCtorEq]
      refine ⟨hg6.trans hg8, ?_⟩
      refine call0 rcwrite_nil ?_
      rintro _ w9 ⟨rfl, rfl⟩
      simp (maxSteps := 1000000) (disch := omega) only [↓sy1, sy2, sy3, readOK, sy5, sy6, Nat.reduceEqDiff, ↓reduceIte, sy7, sy8, sy9, sya, oneOf, syb, syc, Nat.reduceAdd, Nat.reduceMul, syd, sye, syf, syg, syh, reduceCtorEq, decide_true]
      exact R_out (((hg0.trans hgd).trans hg6).trans hg8)
  by_cases hk2 : x.kind = 2
  · simp (maxSteps := 1000000) (disch := omega) only [↓sy1, sy2, sy3, readOK, sy5, sy6, Nat.reduceEqDiff, ↓reduceIte, sy7, sy8, sy9, sya, oneOf, syb, syc, Nat.reduceAdd, Nat.reduceMul, syd, sye, syf, syg, syh, reduceCtorEq, hcell0.1, hk2, show ¬ ((2 : Int) = 0) from by omega, show ¬ ((2 : Int) = 1) from by omega, decide_true, decide_false]
    refine call0 ccommit_nil ?_
    rintro _ w5 ⟨rfl, rfl⟩
    simp (maxSteps := 1000000) (disch := omega) only [↓sy1, sy2, sy3, readOK, sy5, sy6, Nat.reduceEqDiff, ↓reduceIte, sy7, sy8, sy9, sya, oneOf, syb, syc, Nat.reduceAdd, Nat.reduceMul, syd, sye, syf, syg, syh, reduceCtorEq]
    refine call0 rccommit_nil ?_
    rintro _ w6 ⟨rfl, rfl⟩
    simp (maxSteps := 1000000) (disch := omega) only [↓sy1, sy2, sy3, readOK, sy5, sy6, Nat.reduceEqDiff, ↓reduceIte, sy7, sy8, sy9, sya, oneOf, syb, syc, Nat.reduceAdd, Nat.reduceMul, syd, sye, syf, syg, syh, reduceCtorEq, decide_true]
    exact R_out hg0
  · simp (maxSteps := 1000000) (disch := omega) only [↓sy1, sy2, sy3, readOK, sy5, sy6, Nat.reduceEqDiff, ↓reduceIte, sy7, sy8, sy9, sya, oneOf, syb, syc, Nat.reduceAdd, Nat.reduceMul, syd, sye, syf, syg, syh, reduceCtorEq, hcell0.1, hk0, hk1, hk2, decide_true, decide_false]
    refine call0 cabort_nil ?_
    rintro _ w5 ⟨rfl, rfl⟩
    simp (maxSteps := 1000000) (disch := omega) only [↓sy1, sy2, sy3, readOK, sy5, sy6, Nat.reduceEqDiff, ↓reduceIte, sy7, sy8, sy9, sya, oneOf, syb, syc, Nat.reduceAdd, Nat.reduceMul, syd, sye, syf, syg, syh, reduceCtorEq]
    refine call0 rcabort_nil ?_
    rintro _ w6 ⟨rfl, rfl⟩
    simp (maxSteps := 1000000) (disch := omega) only [↓sy1, sy2, sy3, readOK, sy5, sy6, Nat.reduceEqDiff, ↓reduceIte, sy7, sy8, sy9, sya, oneOf, syb, syc, Nat.reduceAdd, Nat.reduceMul, syd, sye, syf, syg, syh, reduceCtorEq, decide_true]
    exact R_out hg0
end Go.Proofs.YtgmodahpcpepjaaGreat

/- BcacheAborts: the walk. -/
namespace Go.Proofs.YtgmodahpcpepjaaGreat
open Go
set_option linter.unusedSimpArgs false
open Go.RowKit (intOf)
theorem Csh.commit_ops {c : Csh} (hc : c.Ok) : c.commit.D.ops.length ≤ c.D.ops.length + 206 ∧ c.D.ops.length ≤ c.commit.D.ops.length := by
  have hroom := hc.room
  simp only [Csh.cap] at hroom
  have hl := c.dirtyL_length
  unfold Csh.commit
  simp only
  split
  · omega
  · rw [grouped_ops]; omega
end Go.Proofs.YtgmodahpcpepjaaGreat

/- BcachePlays: the walk. -/
namespace Go.Proofs.YtgmodahpcpepjaaGreat
open Go
set_option linter.unusedSimpArgs false
open Go.RowKit (intOf)
theorem onC_ops {x : Deed4} {c : Csh} (hc : c.Ok) : (x.onC c).D.ops.length ≤ c.D.ops.length + 206 := by
  unfold Deed4.onC
  split
  · split
    · omega
    · rw [Csh.read_D]; omega
  · split
    · split
      · show c.D.ops.length ≤ _; omega
      · omega
    · split
      · exact (Csh.commit_ops hc).1
      · show c.D.ops.length ≤ _; omega
theorem rcdirty_nil {w : World} : Calls Tryz.prog 11 #[.pointer none] w (Ret fun v w' => v = .slice none 0 0 ∧ w' = w) := by
  apply enter11
  apply R_in
  simp (maxSteps := 1000000) (disch := omega) only [↓sy1, sy2, sy3, readOK, sy5, sy6, Nat.reduceEqDiff, ↓reduceIte, sy7, sy8, sy9, sya, oneOf, syb, syc, Nat.reduceAdd, Nat.reduceMul, syd, sye, syf, syg, syh, reduceCtorEq, F11]
  refine loop_rule (fun e w' => e 0 = .pointer none ∧ e 3 = .slice none 0 0 ∧ w' = w) (fun _ _ => 0) ⟨by simp [upd, updO, ev], by simp [upd, updO, ev], rfl⟩ ?_
  rintro e w1 ⟨e0, e3, rfl⟩
  simp (maxSteps := 1000000) (disch := omega) only [↓sy1, sy2, sy3, readOK, sy5, sy6, Nat.reduceEqDiff, ↓reduceIte, sy7, sy8, sy9, sya, oneOf, syb, syc, Nat.reduceAdd, Nat.reduceMul, syd, sye, syf, syg, syh, reduceCtorEq, F11_L0, e0, e3, Bool.not_true]
  exact R_out trivial
theorem onC_ok {G G' : Gh} {w w' : World} {p lq : Nat} {x : Deed4} {c : Csh} (h : CacheAt G 2 7 w p lq 0 c) : True := trivial
set_option maxHeartbeats 8000000 in
theorem bcachePlays_walk {w : World} {s : Nat} {most : Int} {lv : Value} {l : List Deed4} (hs : s < 256) (hv : HasD4 w lv l) :
    Calls Tryz.prog 3 #[.int .u8 s, .int .i64 most, lv] w (Ret fun v w' => v = .bool true ∧ Grow w w') := by
  have hsm : (s : Int).tmod 12 = ((s % 12 : Nat) : Int) := rfl
  apply enter3
  apply R_in
  simp (maxSteps := 1000000) (disch := omega) only [↓sy1, sy2, sy3, readOK, sy5, sy6, Nat.reduceEqDiff, ↓reduceIte, sy7, sy8, sy9, sya, oneOf, syb, syc, Nat.reduceAdd, Nat.reduceMul, syd, sye, syf, syg, syh, reduceCtorEq, F3, hsm]
  obtain ⟨k, hk⟩ : ∃ k : Nat, k = s % 12 + 1 := ⟨_, rfl⟩
  have hk12 : 1 ≤ k ∧ k ≤ 12 := by omega
  rw [show ((s % 12 : Nat) : Int) + 1 = (k : Int) from by omega]
  clear hsm hk
  by_cases hm : most < 1 ∨ 64 < most
  · refine call0 (copen_bad (by omega) (by omega) hm) ?_
    rintro _ w1 ⟨rfl, hg1⟩
    simp (maxSteps := 1000000) (disch := omega) only [↓sy1, sy2, sy3, readOK, sy5, sy6, Nat.reduceEqDiff, ↓reduceIte, sy7, sy8, sy9, sya, oneOf, syb, syc, Nat.reduceAdd, Nat.reduceMul, syd, sye, syf, syg, syh, reduceCtorEq]
    refine call0 (live4_spec _) ?_
    rintro _ w2 ⟨rfl, hg2⟩
    simp (maxSteps := 1000000) (disch := omega) only [↓sy1, sy2, sy3, readOK, sy5, sy6, Nat.reduceEqDiff, ↓reduceIte, sy7, sy8, sy9, sya, oneOf, syb, syc, Nat.reduceAdd, Nat.reduceMul, syd, sye, syf, syg, syh, reduceCtorEq, Bool.not_true]
    refine loop_rule (fun e w' => ∃ i : Nat, i ≤ min l.length 50 ∧ e 10 = .int .i64 i ∧ e 7 = .pointer none ∧ e 8 = .pointer none ∧ e 2 = lv ∧ Grow w w') (fun e _ => min l.length 50 - (intOf (e 10)).toNat)
      ⟨0, by omega, by simp [upd, updO, ev], by simp [upd, updO, ev], by simp [upd, updO, ev], by simp [upd, updO, ev], hg1.trans hg2⟩ ?_
    rintro e w3 ⟨i, hi, e10, e7, e8, e2, hg3⟩
    have hvl := HasD4.lenD hv
    by_cases hlt : i < min l.length 50
    · have hil : i < l.length := by omega
      obtain ⟨b, o, ha, hat⟩ := HasD4.at hv hil
      generalize l[i] = x at hat
      simp (maxSteps := 1000000) (disch := omega) only [↓sy1, sy2, sy3, readOK, sy5, sy6, Nat.reduceEqDiff, ↓reduceIte, sy7, sy8, sy9, sya, oneOf, syb, syc, Nat.reduceAdd, Nat.reduceMul, syd, sye, syf, syg, syh, reduceCtorEq, F3_L0, e10, e7, e8, e2, hvl, Int.ofNat_lt, hil, show ((i : Int) < 50) from by omega, decide_true, ha, (hat hg3).2.2.2.2]
      refine call0 (do4_nil x) ?_
      rintro _ w4 ⟨rfl, hg4⟩
      simp (maxSteps := 1000000) (disch := omega) only [↓sy1, sy2, sy3, readOK, sy5, sy6, Nat.reduceEqDiff, ↓reduceIte, sy7, sy8, sy9, sya, oneOf, syb, syc, Nat.reduceAdd, Nat.reduceMul, syd, sye, syf, syg, syh, reduceCtorEq, e10, e7, e8, e2, Bool.not_true]
      refine call0 ccached_nil ?_
      rintro _ w5 ⟨rfl, rfl⟩
      simp (maxSteps := 1000000) (disch := omega) only [↓sy1, sy2, sy3, readOK, sy5, sy6, Nat.reduceEqDiff, ↓reduceIte, sy7, sy8, sy9, sya, oneOf, syb, syc, Nat.reduceAdd, Nat.reduceMul, syd, sye, syf, syg, syh, reduceCtorEq, e10, e7, e8, e2]
      refine call0 rccached_nil ?_
      rintro _ w5 ⟨rfl, rfl⟩
      simp (maxSteps := 1000000) (disch := omega) only [↓sy1, sy2, sy3, readOK, sy5, sy6, Nat.reduceEqDiff, ↓reduceIte, sy7, sy8, sy9, sya, oneOf, syb, syc, Nat.reduceAdd, Nat.reduceMul, syd, sye, syf, syg, syh, reduceCtorEq]
      refine call0 (sameInts_spec _ _ [] [] w5 (Has.nil 1 w5) (Has.nil 1 w5) (by simp)) ?_
      rintro _ w6 ⟨rfl, hg6⟩
      simp (maxSteps := 1000000) (disch := omega) only [↓sy1, sy2, sy3, readOK, sy5, sy6, Nat.reduceEqDiff, ↓reduceIte, sy7, sy8, sy9, sya, oneOf, syb, syc, Nat.reduceAdd, Nat.reduceMul, syd, sye, syf, syg, syh, reduceCtorEq, e10, e7, e8, e2, decide_true, Bool.not_true]
      refine call0 cdirty_nil ?_
      rintro _ w7 ⟨rfl, rfl⟩
      simp (maxSteps := 1000000) (disch := omega) only [↓sy1, sy2, sy3, readOK, sy5, sy6, Nat.reduceEqDiff, ↓reduceIte, sy7, sy8, sy9, sya, oneOf, syb, syc, Nat.reduceAdd, Nat.reduceMul, syd, sye, syf, syg, syh, reduceCtorEq, e10, e7, e8, e2]
      refine call0 rcdirty_nil ?_
      rintro _ w7 ⟨rfl, rfl⟩
      simp (maxSteps := 1000000) (disch := omega) only [↓sy1, sy2, sy3, readOK, sy5, sy6, Nat.reduceEqDiff, ↓reduceIte, sy7, sy8, sy9, sya, oneOf, syb, syc, Nat.reduceAdd, Nat.reduceMul, syd, sye, syf, syg, syh, reduceCtorEq]
      refine call0 (sameInts_spec _ _ [] [] w7 (Has.nil 1 w7) (Has.nil 1 w7) (by simp)) ?_
      rintro _ w8 ⟨rfl, hg8⟩
      simp (maxSteps := 1000000) (disch := omega) only [↓sy1, sy2, sy3, readOK, sy5, sy6, Nat.reduceEqDiff, ↓reduceIte, sy7, sy8, sy9, sya, oneOf, syb, syc, Nat.reduceAdd, Nat.reduceMul, syd, sye, syf, syg, syh, reduceCtorEq, e10, e7, e8, e2, decide_true, Bool.not_true]
      refine call0 croom_nil ?_
      rintro _ w9 ⟨rfl, rfl⟩
      simp (maxSteps := 1000000) (disch := omega) only [↓sy1, sy2, sy3, readOK, sy5, sy6, Nat.reduceEqDiff, ↓reduceIte, sy7, sy8, sy9, sya, oneOf, syb, syc, Nat.reduceAdd, Nat.reduceMul, syd, sye, syf, syg, syh, reduceCtorEq, e10, e7, e8, e2]
      refine call0 rcroom_nil ?_
      rintro _ w9 ⟨rfl, rfl⟩
      simp (maxSteps := 1000000) (disch := omega) only [↓sy1, sy2, sy3, readOK, sy5, sy6, Nat.reduceEqDiff, ↓reduceIte, sy7, sy8, sy9, sya, oneOf, syb, syc, Nat.reduceAdd, Nat.reduceMul, syd, sye, syf, syg, syh, reduceCtorEq, e10, e7, e8, e2, decide_true, Bool.not_true]
      exact R_out ⟨⟨i + 1, by omega, rfl, ((hg3.trans hg4).trans hg6).trans hg8⟩, by simp only [intOf]; omega⟩
    · by_cases hil : i < l.length
      all_goals first
        | (simp (maxSteps := 1000000) (disch := omega) only [↓sy1, sy2, sy3, readOK, sy5, sy6, Nat.reduceEqDiff, ↓reduceIte, sy7, sy8, sy9, sya, oneOf, syb, syc, Nat.reduceAdd, Nat.reduceMul, syd, sye, syf, syg, syh, reduceCtorEq, F3_L0, e10, e7, e8, e2, hvl, Int.ofNat_lt, hil, show ¬ ((i : Int) < 50) from by omega, decide_true, decide_false])
        | (simp (maxSteps := 1000000) (disch := omega) only [↓sy1, sy2, sy3, readOK, sy5, sy6, Nat.reduceEqDiff, ↓reduceIte, sy7, sy8, sy9, sya, oneOf, syb, syc, Nat.reduceAdd, Nat.reduceMul, syd, sye, syf, syg, syh, reduceCtorEq, F3_L0, e10, e7, e8, e2, hvl, Int.ofNat_lt, hil, decide_true, decide_false])
      all_goals
        refine draw3_0 (fun _ => False) ?_
        have hgd : Grow w3 w3.drew := (Keep.refl _ _).drew
        generalize w3.drew = w4 at hgd ⊢
        simp (maxSteps := 1000000) (disch := omega) only [↓sy1, sy2, sy3, readOK, sy5, sy6, Nat.reduceEqDiff, ↓reduceIte, sy7, sy8, sy9, sya, oneOf, syb, syc, Nat.reduceAdd, Nat.reduceMul, syd, sye, syf, syg, syh, reduceCtorEq, PL3_0, e10, e7, e8, e2]
        exact ⟨fun h => h.elim, Keep.refl _ _, Keep.refl _ _, Keep.refl _ _, R_out (hg3.trans hgd)⟩
  obtain ⟨mo, rfl⟩ : ∃ mo : Nat, most = mo := ⟨most.toNat, by omega⟩
  refine call0 (copen_spec G00 (size := k) (most := mo) 2 3 7 8 (by omega) (by omega) (by omega) (by omega) (by omega) (by omega) (by omega) (by omega) (by omega)) ?_
  rintro _ w1 ⟨p, r, lq, rq, G1, rfl, hp1, hr1, hc1, hl1, hb1, ho1, hf1, hx1⟩
  have hr1 : RCacheAt G1 3 8 w1 r rq 0 (Csh.new (Dsk.zero (k + 12)) k mo) [] := ⟨hc1.1, by omega, by omega, by simp only [Csh.group, Csh.dirtyL, Csh.new_dirty]; exact List.Perm.refl _, hl1, .slice none 0 0, .slice none 0 0, hb1, ho1, hf1, PagesZ.nil _ _, ⟨Has.nil 1 _, fun b hb => by simp [Value.ownBlock] at hb⟩⟩
  simp (maxSteps := 1000000) (disch := omega) only [↓sy1, sy2, sy3, readOK, sy5, sy6, Nat.reduceEqDiff, ↓reduceIte, sy7, sy8, sy9, sya, oneOf, syb, syc, Nat.reduceAdd, Nat.reduceMul, syd, sye, syf, syg, syh, reduceCtorEq]
  refine call0 (live4_spec _) ?_
  rintro _ w2 ⟨rfl, hg2⟩
  have hx02 : Ext Both G00 w G1 w2 := (hx1.trans (.grow hg2)).mono (fun _ h => h.elim)
  simp (maxSteps := 1000000) (disch := omega) only [↓sy1, sy2, sy3, readOK, sy5, sy6, Nat.reduceEqDiff, ↓reduceIte, sy7, sy8, sy9, sya, oneOf, syb, syc, Nat.reduceAdd, Nat.reduceMul, syd, sye, syf, syg, syh, reduceCtorEq, Bool.not_true]
  refine loop_rule (fun e w' => ∃ (i : Nat) (c : Csh) (ps : List Pg) (G' : Gh), i ≤ min l.length 50 ∧ e 10 = .int .i64 i ∧ e 7 = .pointer (some ⟨p, 0, none⟩) ∧ e 8 = .pointer (some ⟨r, 0, none⟩) ∧ e 2 = lv ∧ CacheAt G' 2 7 w' p lq 0 c ∧ RCacheAt G' 3 8 w' r rq 0 c ps ∧ c.D.ops.length ≤ 206 * i ∧ Ext Both G00 w G' w') (fun e _ => min l.length 50 - (intOf (e 10)).toNat)
    ⟨0, _, _, G1, by omega, by simp [upd, updO, ev], by simp [upd, updO, ev], by simp [upd, updO, ev], by simp [upd, updO, ev], hc1.grow hg2, hr1.grow hg2, by show 0 ≤ _; omega, hx02⟩ ?_
  rintro e w3 ⟨i, c, ps, G3, hi, e10, e7, e8, e2, hc3, hr3, hops, hx3⟩
  have hg3 : Grow w w3 := hx3.toGrow (by omega)
  have hvl := HasD4.lenD hv
  by_cases hlt : i < min l.length 50
  · have hil : i < l.length := by omega
    obtain ⟨b, o, ha, hat⟩ := HasD4.at hv hil
    generalize l[i] = x at hat
    have hco := onC_ops (x := x) hc3.1
    simp (maxSteps := 1000000) (disch := omega) only [↓sy1, sy2, sy3, readOK, sy5, sy6, Nat.reduceEqDiff, ↓reduceIte, sy7, sy8, sy9, sya, oneOf, syb, syc, Nat.reduceAdd, Nat.reduceMul, syd, sye, syf, syg, syh, reduceCtorEq, F3_L0, e10, e7, e8, e2, hvl, Int.ofNat_lt, hil, show ((i : Int) < 50) from by omega, decide_true, ha, (hat hg3).2.2.2.2]
    refine call0 (do4_spec hc3 hr3 (by omega) x) ?_
    rintro _ w4 ⟨rfl, G4, ps4, hc4, hr4, hx4⟩
    generalize x.onC c = c4 at *
    have hfew := hc4.1.few
    have hm2 := hc4.1.m2
    have hroom := hc4.1.room
    simp only [Csh.cap] at hroom
    simp (maxSteps := 1000000) (disch := omega) only [↓sy1, sy2, sy3, readOK, sy5, sy6, Nat.reduceEqDiff, ↓reduceIte, sy7, sy8, sy9, sya, oneOf, syb, syc, Nat.reduceAdd, Nat.reduceMul, syd, sye, syf, syg, syh, reduceCtorEq, e10, e7, e8, e2, Bool.not_true]
    refine call0 (ccached_spec hc4) ?_
    rintro cv w5 ⟨hcv, hg5⟩
    simp (maxSteps := 1000000) (disch := omega) only [↓sy1, sy2, sy3, readOK, sy5, sy6, Nat.reduceEqDiff, ↓reduceIte, sy7, sy8, sy9, sya, oneOf, syb, syc, Nat.reduceAdd, Nat.reduceMul, syd, sye, syf, syg, syh, reduceCtorEq, e10, e7, e8, e2]
    refine call0 (rccached_spec (hr4.grow hg5)) ?_
    rintro rv w6 ⟨hrv, hg6⟩
    simp (maxSteps := 1000000) (disch := omega) only [↓sy1, sy2, sy3, readOK, sy5, sy6, Nat.reduceEqDiff, ↓reduceIte, sy7, sy8, sy9, sya, oneOf, syb, syc, Nat.reduceAdd, Nat.reduceMul, syd, sye, syf, syg, syh, reduceCtorEq]
    refine call0 (sameInts_spec cv rv _ _ w6 ((Has.own hcv).grow hg6) hrv (by simp [zs]; omega)) ?_
    rintro _ w7 ⟨rfl, hg7⟩
    have hg47 := (hg5.trans hg6).trans hg7
    simp (maxSteps := 1000000) (disch := omega) only [↓sy1, sy2, sy3, readOK, sy5, sy6, Nat.reduceEqDiff, ↓reduceIte, sy7, sy8, sy9, sya, oneOf, syb, syc, Nat.reduceAdd, Nat.reduceMul, syd, sye, syf, syg, syh, reduceCtorEq, e10, e7, e8, e2, decide_true, Bool.not_true]
    refine call0 (cdirty_spec (hc4.grow hg47)) ?_
    rintro dv w8 ⟨hdv, hg8⟩
    simp (maxSteps := 1000000) (disch := omega) only [↓sy1, sy2, sy3, readOK, sy5, sy6, Nat.reduceEqDiff, ↓reduceIte, sy7, sy8, sy9, sya, oneOf, syb, syc, Nat.reduceAdd, Nat.reduceMul, syd, sye, syf, syg, syh, reduceCtorEq, e10, e7, e8, e2]
    refine call0 (rcdirty_spec (hr4.grow (hg47.trans hg8))) ?_
    rintro sv w9 ⟨hsv, hg9⟩
    simp (maxSteps := 1000000) (disch := omega) only [↓sy1, sy2, sy3, readOK, sy5, sy6, Nat.reduceEqDiff, ↓reduceIte, sy7, sy8, sy9, sya, oneOf, syb, syc, Nat.reduceAdd, Nat.reduceMul, syd, sye, syf, syg, syh, reduceCtorEq]
    refine call0 (sameInts_spec dv sv _ _ w9 ((Has.own hdv).grow hg9) hsv (by simp [zs]; omega)) ?_
    rintro _ w10 ⟨rfl, hg10⟩
    have hg410 := ((hg47.trans hg8).trans hg9).trans hg10
    simp (maxSteps := 1000000) (disch := omega) only [↓sy1, sy2, sy3, readOK, sy5, sy6, Nat.reduceEqDiff, ↓reduceIte, sy7, sy8, sy9, sya, oneOf, syb, syc, Nat.reduceAdd, Nat.reduceMul, syd, sye, syf, syg, syh, reduceCtorEq, e10, e7, e8, e2, decide_true, Bool.not_true]
    refine call0 (room_spec (hc4.grow hg410)) ?_
    rintro _ w11 ⟨rfl, hg11⟩
    simp (maxSteps := 1000000) (disch := omega) only [↓sy1, sy2, sy3, readOK, sy5, sy6, Nat.reduceEqDiff, ↓reduceIte, sy7, sy8, sy9, sya, oneOf, syb, syc, Nat.reduceAdd, Nat.reduceMul, syd, sye, syf, syg, syh, reduceCtorEq, e10, e7, e8, e2]
    refine call0 (rcroom_spec (hr4.grow (hg410.trans hg11))) ?_
    rintro _ w12 ⟨rfl, hg12⟩
    simp (maxSteps := 1000000) (disch := omega) only [↓sy1, sy2, sy3, readOK, sy5, sy6, Nat.reduceEqDiff, ↓reduceIte, sy7, sy8, sy9, sya, oneOf, syb, syc, Nat.reduceAdd, Nat.reduceMul, syd, sye, syf, syg, syh, reduceCtorEq, e10, e7, e8, e2, decide_true, Bool.not_true]
    have hg412 := (hg410.trans hg11).trans hg12
    exact R_out ⟨⟨i + 1, c4, ps4, G4, by omega, rfl, hc4.grow hg412, hr4.grow hg412, by omega, (hx3.trans hx4).trans (.grow hg412)⟩, by simp only [intOf]; omega⟩
  · by_cases hil : i < l.length
    all_goals first
      | (simp (maxSteps := 1000000) (disch := omega) only [↓sy1, sy2, sy3, readOK, sy5, sy6, Nat.reduceEqDiff, ↓reduceIte, sy7, sy8, sy9, sya, oneOf, syb, syc, Nat.reduceAdd, Nat.reduceMul, syd, sye, syf, syg, syh, reduceCtorEq, F3_L0, e10, e7, e8, e2, hvl, Int.ofNat_lt, hil, show ¬ ((i : Int) < 50) from by omega, decide_true, decide_false])
      | (simp (maxSteps := 1000000) (disch := omega) only [↓sy1, sy2, sy3, readOK, sy5, sy6, Nat.reduceEqDiff, ↓reduceIte, sy7, sy8, sy9, sya, oneOf, syb, syc, Nat.reduceAdd, Nat.reduceMul, syd, sye, syf, syg, syh, reduceCtorEq, F3_L0, e10, e7, e8, e2, hvl, Int.ofNat_lt, hil, decide_true, decide_false])
    all_goals
      refine draw3_0 (fun _ => False) ?_
      have hgd : Grow w3 w3.drew := (Keep.refl _ _).drew
      generalize w3.drew = w4 at hgd ⊢
      have hc4 := hc3.grow hgd
      have hr4 := hr3.grow hgd
      obtain ⟨dv, rv, hcc⟩ := hr4.cells
      obtain ⟨q0, _⟩ := hcc (Keep.refl _ _)
      simp (maxSteps := 1000000) (disch := omega) only [↓sy1, sy2, sy3, readOK, sy5, sy6, Nat.reduceEqDiff, ↓reduceIte, sy7, sy8, sy9, sya, oneOf, syb, syc, Nat.reduceAdd, Nat.reduceMul, syd, sye, syf, syg, syh, reduceCtorEq, PL3_0, e10, e7, e8, e2, q0]
      refine call0 (clog_spec hc4) ?_
      rintro _ w4' ⟨rfl, rfl⟩
      simp (maxSteps := 1000000) (disch := omega) only [↓sy1, sy2, sy3, readOK, sy5, sy6, Nat.reduceEqDiff, ↓reduceIte, sy7, sy8, sy9, sya, oneOf, syb, syc, Nat.reduceAdd, Nat.reduceMul, syd, sye, syf, syg, syh, reduceCtorEq]
      refine ⟨Keep.refl _ _, ?_⟩
      refine call0 (ldisk_spec 11 hc4.2.log) ?_
      rintro _ w5 ⟨p5, G5, rfl, _, hd5, hx5⟩
      have hg5 := hx5.growG
      simp (maxSteps := 1000000) (disch := omega) only [↓sy1, sy2, sy3, readOK, sy5, sy6, Nat.reduceEqDiff, ↓reduceIte, sy7, sy8, sy9, sya, oneOf, syb, syc, Nat.reduceAdd, Nat.reduceMul, syd, sye, syf, syg, syh, reduceCtorEq]
      refine ⟨hg5, ?_⟩
      refine call0 (image_spec hd5) ?_
      rintro iv w6 ⟨hiv, hg6⟩
      simp (maxSteps := 1000000) (disch := omega) only [↓sy1, sy2, sy3, readOK, sy5, sy6, Nat.reduceEqDiff, ↓reduceIte, sy7, sy8, sy9, sya, oneOf, syb, syc, Nat.reduceAdd, Nat.reduceMul, syd, sye, syf, syg, syh, reduceCtorEq]
      refine ⟨hg5.trans hg6, ?_⟩
      have hr6 := (hr4.ext hx5 id id id).grow hg6
      refine call0 (rldisk_spec 12 hr6.log) ?_
      rintro _ w7 ⟨p7, G7, rfl, _, hd7, hx7⟩
      simp (maxSteps := 1000000) (disch := omega) only [↓sy1, sy2, sy3, readOK, sy5, sy6, Nat.reduceEqDiff, ↓reduceIte, sy7, sy8, sy9, sya, oneOf, syb, syc, Nat.reduceAdd, Nat.reduceMul, syd, sye, syf, syg, syh, reduceCtorEq]
      refine call0 (rimage_spec hd7) ?_
      rintro jv w8 ⟨hjv, hg8⟩
      simp (maxSteps := 1000000) (disch := omega) only [↓sy1, sy2, sy3, readOK, sy5, sy6, Nat.reduceEqDiff, ↓reduceIte, sy7, sy8, sy9, sya, oneOf, syb, syc, Nat.reduceAdd, Nat.reduceMul, syd, sye, syf, syg, syh, reduceCtorEq]
      have hc8 := (((hc4.ext hx5 id id id).grow hg6).ext hx7 id id id).grow hg8
      have hr8 := (hr6.ext hx7 id id id).grow hg8
      have hm := hd5.ok.most
      refine call0 (sameAll_spec iv jv _ _ w8 ((hiv.grow (hx7.growG.trans hg8)).has) hjv.has (by rw [Dsk.image_length]; omega) (fun b hb => by rw [hd5.ok.image b hb]; omega)) ?_
      rintro _ w9 ⟨rfl, hg9⟩
      have hc9 := hc8.grow hg9
      have hr9 := hr8.grow hg9
      have q9 : w9.cell? ⟨r, 0, none⟩ = some (.pointer (some ⟨rq, 0, none⟩)) := ((hr9.cells).choose_spec.choose_spec (Keep.refl _ _)).1
      simp (maxSteps := 1000000) (disch := omega) only [↓sy1, sy2, sy3, readOK, sy5, sy6, Nat.reduceEqDiff, ↓reduceIte, sy7, sy8, sy9, sya, oneOf, syb, syc, Nat.reduceAdd, Nat.reduceMul, syd, sye, syf, syg, syh, reduceCtorEq, e10, e7, e8, e2, decide_true, q9]
      first
        | refine ⟨call0 (clog_spec hc9) ?_, call0 (clog_spec hc9) ?_⟩
        | refine call0 (clog_spec hc9) ?_
      all_goals
        rintro _ w10 ⟨rfl, rfl⟩
        simp (maxSteps := 1000000) (disch := omega) only [↓sy1, sy2, sy3, readOK, sy5, sy6, Nat.reduceEqDiff, ↓reduceIte, sy7, sy8, sy9, sya, oneOf, syb, syc, Nat.reduceAdd, Nat.reduceMul, syd, sye, syf, syg, syh, reduceCtorEq, q9]
        first
          | refine ⟨call0 (ldisk_spec 13 hc9.2.log) ?_, call0 (ldisk_spec 13 hc9.2.log) ?_⟩
          | refine call0 (ldisk_spec 13 hc9.2.log) ?_
      all_goals
        rintro _ w11 ⟨p11, G11, rfl, _, hd11, hx11⟩
        have q11 := hx11.growG.gcell q9
        have hr11 := hr9.ext hx11 id id id
        simp (maxSteps := 1000000) (disch := omega) only [↓sy1, sy2, sy3, readOK, sy5, sy6, Nat.reduceEqDiff, ↓reduceIte, sy7, sy8, sy9, sya, oneOf, syb, syc, Nat.reduceAdd, Nat.reduceMul, syd, sye, syf, syg, syh, reduceCtorEq, q11]
        first
          | refine ⟨call0 (ops_spec hd11) ?_, call0 (ops_spec hd11) ?_⟩
          | refine call0 (ops_spec hd11) ?_
      all_goals
        rintro _ w12 ⟨rfl, rfl⟩
        simp (maxSteps := 1000000) (disch := omega) only [↓sy1, sy2, sy3, readOK, sy5, sy6, Nat.reduceEqDiff, ↓reduceIte, sy7, sy8, sy9, sya, oneOf, syb, syc, Nat.reduceAdd, Nat.reduceMul, syd, sye, syf, syg, syh, reduceCtorEq, q11]
        refine call0 (rldisk_spec 14 hr11.log) ?_
        rintro _ w13 ⟨p13, G13, rfl, _, hd13, hx13⟩
        simp (maxSteps := 1000000) (disch := omega) only [↓sy1, sy2, sy3, readOK, sy5, sy6, Nat.reduceEqDiff, ↓reduceIte, sy7, sy8, sy9, sya, oneOf, syb, syc, Nat.reduceAdd, Nat.reduceMul, syd, sye, syf, syg, syh, reduceCtorEq]
        refine call0 (rops_spec hd13) ?_
        rintro _ w14 ⟨rfl, rfl⟩
        simp (maxSteps := 1000000) (disch := omega) only [↓sy1, sy2, sy3, readOK, sy5, sy6, Nat.reduceEqDiff, ↓reduceIte, sy7, sy8, sy9, sya, oneOf, syb, syc, Nat.reduceAdd, Nat.reduceMul, syd, sye, syf, syg, syh, reduceCtorEq, decide_true]
        exact R_out (((((((hg3.trans hgd).trans hg5).trans hg6).trans (hx7.growG.trans hg8)).trans hg9).trans hx11.growG).trans hx13.growG)
end Go.Proofs.YtgmodahpcpepjaaGreat

/- Arguments opened: rows of numbers, of bytes. What is only read reads as it did. -/
namespace Go.Proofs.YtgmodahpcpepjaaGreat
open Go
set_option linter.unusedSimpArgs false
open Go.RowKit Go.ChangeShapes Go.WideShapes Go.Deep Go.Joins
theorem okSlice {P : Program} {w : World} {r : Reach} {base : Nat} {t e : TypeId} {v : Value} (ht : P.underlying t = some (.slice e)) (h : Value.okWide P w r base t v) :
    v = .slice none 0 0 ∨ ∃ b o len cap, v = .slice (some ⟨b, o, none⟩) len cap := by
  simp only [Value.okWide, ht, Cell.okWide] at h
  cases v with
  | slice a len cap =>
    cases a with
    | none =>
      simp only [Cell.ok, ht] at h
      cases len <;> cases cap <;> simp at h
      exact .inl rfl
    | some a =>
      simp only [Cell.ok, ht] at h
      obtain ⟨_, _, _, hs, _⟩ := h
      obtain ⟨b, o, s⟩ := a
      cases hs
      exact .inr ⟨b, o, len, cap, rfl⟩
  | _ => simp [Cell.ok, ht] at h
section
variable {H : Type} {enc : TypeId × Value → H} {w : World} {base : Nat} {spare : Nat → Bool} {held : Bool}
theorem cellsBool : Tryz.prog.cellsOf 4 = 1 := by kernel_rfl
theorem cellsInt : Tryz.prog.cellsOf 3 = 1 := by kernel_rfl
theorem cellsU8 : Tryz.prog.cellsOf 5 = 1 := by kernel_rfl
set_option maxRecDepth 100000 in
/-- A row of numbers. -/
theorem open_intsL {v : Value} {d : DataW H} {p : List MemPlace} {W : World} {b0 : Nat} (hv : Value.okWide Tryz.prog W .any b0 32 v) (h : DataW.Trod enc Tryz.prog W 0 (fun _ => true) true 32 v d p) :
    ∃ l : List Int, HasI W v l ∧ l.length ≤ 9223372036854775807 ∧ ∀ z ∈ l, -9223372036854775808 ≤ z ∧ z ≤ 9223372036854775807 := by
  obtain ⟨fuel, hf⟩ := h
  rcases okSlice Tryz.underlying32 hv with rfl | ⟨b, o, len, cap, rfl⟩
  · exact ⟨[], Has.nil 1 W, by simp, by simp⟩
  rcases open_ints Tryz.underlying32 Tryz.underlying3 cellsInt hf with ⟨hcs, _⟩ | ⟨a, len', cap', zs, hcs, _, hl, hm, hz, hx, hcell, hwz⟩
  · simp [Value.cells] at hcs
  simp only [Value.cells, List.cons.injEq, Value.slice.injEq, and_true, Option.some.injEq] at hcs
  obtain ⟨rfl, rfl, rfl⟩ := hcs
  simp only [if_true] at hz
  have hlen : (zs.take len).length = len := by rw [List.length_take]; omega
  refine ⟨zs.take len, .inl ⟨b, o, len, cap, rfl, by simp only [ints, List.length_map, hlen]; omega, hl, fun j u hj => ?_⟩, ?_, fun z hz' => ?_⟩
  · simp only [ints, List.getElem?_map, Option.map_eq_some_iff] at hj
    obtain ⟨z, hj, rfl⟩ := hj
    obtain ⟨hjl, hj⟩ := List.getElem?_eq_some_iff.1 hj
    rw [hlen] at hjl
    have := hcell j (by omega)
    rw [add_lit] at this
    rw [this, ← hj, List.getElem_take, List.getD_eq_getElem?_getD, List.getElem?_eq_getElem (by omega)]; rfl
  · rw [hlen]; have : maxLen = 9223372036854775807 := rfl; omega
  · have := bounds_i64 (hwz z (List.mem_of_mem_take hz')); omega
set_option maxRecDepth 100000 in
/-- A row of bytes. -/
theorem open_bytesL {v : Value} {d : DataW H} {p : List MemPlace} {W : World} {b0 : Nat} (hv : Value.okWide Tryz.prog W .any b0 62 v) (h : DataW.Trod enc Tryz.prog W 0 (fun _ => true) true 62 v d p) :
    ∃ l : List UInt8, HasB W v l := by
  obtain ⟨fuel, hf⟩ := h
  rcases okSlice Tryz.underlying62 hv with rfl | ⟨b, o, len, cap, rfl⟩
  · exact ⟨[], Has.nil 1 W⟩
  rcases open_ints Tryz.underlying62 Tryz.underlying5 cellsU8 hf with ⟨hcs, _⟩ | ⟨a, len', cap', zs, hcs, _, hl, hm, hz, hx, hcell, hwz⟩
  · simp [Value.cells] at hcs
  simp only [Value.cells, List.cons.injEq, Value.slice.injEq, and_true, Option.some.injEq] at hcs
  obtain ⟨rfl, rfl, rfl⟩ := hcs
  simp only [if_true] at hz
  have hlen : (zs.take len).length = len := by rw [List.length_take]; omega
  refine ⟨(zs.take len).map fun z => UInt8.ofNat z.toNat, .inl ⟨b, o, len, cap, rfl, by simp [bs]; omega, hl, fun j u hj => ?_⟩⟩
  simp only [bs, List.map_map, List.getElem?_map, Option.map_eq_some_iff, Function.comp] at hj
  obtain ⟨z, hj, rfl⟩ := hj
  obtain ⟨hjl, hj⟩ := List.getElem?_eq_some_iff.1 hj
  rw [hlen] at hjl
  have := hcell j (by omega)
  rw [add_lit] at this
  have hbz := bounds_u8 (hwz z (by rw [← hj, List.getElem_take]; exact List.getElem_mem _))
  rw [this, ← hj, List.getElem_take, List.getD_eq_getElem?_getD, List.getElem?_eq_getElem (by omega)]
  rw [List.getElem_take] at hj
  have hz' : ((UInt8.ofNat z.toNat).toNat : Int) = z := by rw [UInt8.toNat_ofNat']; omega
  rw [hj, hz']; rfl
theorem u8_nat {n : Int} (h : (Lit.int .u8 n).wf = true) : ∃ k : Nat, k < 256 ∧ n = (k : Int) := by
  have := bounds_u8 h
  exact ⟨n.toNat, by omega, by omega⟩
/-- What is only read reads as it did. -/
theorem argsStay {P : Program} {W W' : World} (hl : laidOutB P = true) (hb : Below W.heap.size W W') : ∀ {ts : List TypeId} {vs : List Value} {ds : List (DataW H)} {ps : List MemPlace}, (ts.all fun t => P.readableRec t && decide (t < P.types.size)) = true →
    DataW.TrodAll enc P W 0 (fun _ => true) true ts vs ds ps → (∀ x ∈ ps, x.block < W.heap.size) → DataW.TrodAll enc P W' 0 (fun b => decide (b < W.heap.size)) true ts vs ds ps
  | [], _, _, _, _, h, _ => by
    obtain ⟨rfl, rfl, rfl⟩ := trodAll_nil h
    exact trodAll_mk0
  | t :: ts, _, _, _, ht, h, hlt => by
    obtain ⟨v, vs, d, ds, p, q, rfl, rfl, rfl, h0, h1⟩ := trodAll_cons h
    simp only [List.all_cons, Bool.and_eq_true, decide_eq_true_eq] at ht
    exact trodAll_cons_mk (Below.trod hl ht.1.1 ht.1.2 h0 hb (fun x hx => hlt x (by simp [hx]))) (argsStay hl hb ht.2 h1 (fun x hx => hlt x (by simp [hx])))
end
end Go.Proofs.YtgmodahpcpepjaaGreat

/- Arguments opened: rows of deeds; a deed (law04). -/
namespace Go.Proofs.YtgmodahpcpepjaaGreat
open Go
set_option linter.unusedSimpArgs false
open Go.RowKit Go.ChangeShapes Go.WideShapes Go.Deep Go.Joins
section
variable {H : Type} {enc : TypeId × Value → H} {w : World} {base : Nat} {spare : Nat → Bool} {held : Bool}
theorem cellsDeed4 : Tryz.prog.cellsOf 30 = 4 := by kernel_rfl
set_option maxRecDepth 100000 in
theorem deed4_fields {fuel : Nat} {cs : List Value} {x : DataW H × List MemPlace} (h : DataW.trod enc Tryz.prog w base spare held fuel 30 cs = some x) : ∃ y : Deed4, cs = y.cells := by
  obtain ⟨y0, y1, y2, y3, n, _, hl, h0, h1, h2, h3⟩ := trod_struct4 Tryz.underlying30 h
  rw [cellsDeed4] at hl
  match cs, hl with
  | [c0, c1, c2, c3], _ =>
    simp only [cellsBool, cellsInt, cellsU8, List.drop_zero, List.drop_succ_cons, List.take_succ_cons, List.take_zero] at h0 h1 h2 h3
    obtain ⟨a0, e0, _, w0⟩ := DataW.trod_int Tryz.underlying3 h0
    obtain ⟨a1, e1, _, w1⟩ := DataW.trod_int Tryz.underlying3 h1
    obtain ⟨a2, e2, _, wf⟩ := DataW.trod_int Tryz.underlying5 h2
    obtain ⟨a3, e3, _⟩ := DataW.trod_bool Tryz.underlying4 h3
    cases e0; cases e1; cases e2; cases e3
    have hb := bounds_u8 wf
    refine ⟨⟨a0, a1, UInt8.ofNat a2.toNat, a3⟩, ?_⟩
    have : ((UInt8.ofNat a2.toNat).toNat : Int) = a2 := by
      rw [UInt8.toNat_ofNat']; omega
    simp [Deed4.cells]; omega
set_option maxRecDepth 100000 in
theorem open_deeds4 {v : Value} {d : DataW H} {p : List MemPlace} {W : World} {b0 : Nat} (hv : Value.okWide Tryz.prog W .any b0 22 v) (h : DataW.Trod enc Tryz.prog W 0 (fun _ => true) true 22 v d p) :
    ∃ l : List Deed4, HasD4 W v l := by
  have hC := cellsDeed4
  obtain ⟨fuel, hf⟩ := h
  rcases okSlice Tryz.underlying22 hv with rfl | ⟨b, o, len, cap, rfl⟩
  · exact ⟨[], Has.nil 4 W⟩
  rcases open_slice Tryz.underlying22 hf with ⟨hcs, _⟩ | ⟨a, len', cap', m, n, D, Pl, hcs, hb, hl, hm, hmm, hx, hi⟩
  · simp [Value.cells] at hcs
  simp only [Value.cells, List.cons.injEq, Value.slice.injEq, and_true, Option.some.injEq] at hcs
  obtain ⟨rfl, rfl, rfl⟩ := hcs
  simp only [if_true] at hmm
  have key : ∀ k, k ≤ len → ∃ l : List Deed4, l.length = k ∧ ∀ j u, (l.flatMap Deed4.cells)[j]? = some u → W.cell? ⟨b, o + j, none⟩ = some u := by
    intro k
    induction k with
    | zero => intro _; exact ⟨[], rfl, fun j u hj => by simp at hj⟩
    | succ k ih =>
      intro hk
      obtain ⟨l, hll, hlc⟩ := ih (by omega)
      obtain ⟨cs', hc, ht'⟩ := hi k (by omega)
      obtain ⟨x, rfl⟩ := deed4_fields ht'
      obtain ⟨_, _, hat⟩ := World.cells?_some hc
      rw [hC] at hat
      refine ⟨l ++ [x], by simp [hll], fun j u hj => ?_⟩
      rw [List.flatMap_append, List.flatMap_cons, List.flatMap_nil, List.append_nil] at hj
      by_cases hjl : j < (l.flatMap Deed4.cells).length
      · rw [List.getElem?_append_left hjl] at hj; exact hlc j u hj
      · rw [List.getElem?_append_right (by omega)] at hj
        rw [deeds4_length, hll] at hj hjl
        have hj4 : j - k * 4 < 4 := by
          have := (List.getElem?_eq_some_iff.1 hj).1
          simpa [Deed4.cells] using this
        have := hat (j - k * 4) hj4
        rw [add_lit, add_lit, hj] at this
        rw [← this]
        congr 2; omega
  obtain ⟨l, hll, hlc⟩ := key len (Nat.le_refl _)
  exact ⟨l, .inl ⟨b, o, len, cap, rfl, by rw [deeds4_length, hll], hl, hlc⟩⟩
set_option maxRecDepth 100000 in
theorem open_deed4 {v : Value} {d : DataW H} {p : List MemPlace} {W : World} {b0 : Nat} (hv : Value.okWide Tryz.prog W .any b0 30 v) (h : DataW.Trod enc Tryz.prog W 0 (fun _ => true) true 30 v d p) :
    ∃ x : Deed4, v = x.val := by
  obtain ⟨cs, rfl, hsz⟩ := okWide_struct Tryz.underlying30 hv
  obtain ⟨fuel, hf⟩ := h
  have hf' : DataW.trod enc Tryz.prog W 0 (fun _ => true) true fuel 30 cs.toList = some (d, p) := by simpa [Value.cells] using hf
  obtain ⟨y, hy⟩ := deed4_fields hf'
  refine ⟨y, ?_⟩
  rw [Deed4.val, show cs = y.cells.toArray by rw [← hy]]
  rfl
end
end Go.Proofs.YtgmodahpcpepjaaGreat
