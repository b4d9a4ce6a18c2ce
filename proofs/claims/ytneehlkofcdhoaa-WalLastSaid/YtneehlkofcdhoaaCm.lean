/- Commit. -/
import Derived.Test.YtneehlkofcdhoaaCp
namespace Go.Proofs.Ytneehlkofcdhoaa
open Go
set_option linter.unusedSimpArgs false
open Go.RowKit (intOf)
theorem ptr_cells (a : Option Addr) : (Value.pointer a).cells = #[.pointer a] := rfl
theorem commit_nil {w : World} {v : Value} : Calls Try.prog 14 #[.pointer none, v] w (Ret fun v w' => v = .int .i64 1 ∧ Grow w w') := by
  have hb1 := heap_alloc_new w (.cells #[.pointer none] 23)
  have hbx : (w.alloc (.cells #[.pointer none] 23)).cell? ⟨w.heap.size, 0, none⟩ = some (.pointer none) := by rw [cell_block hb1]; rfl
  apply enter14
  apply R_in
  simp (maxSteps := 600000) (disch := omega) only [F14, ↓sy1, sy2, sy3, readOK, sy5, sy6, Nat.reduceEqDiff, ↓reduceIte, sy7, sy8, sy9, sya, oneOf, syb, syc, Nat.reduceAdd, Nat.reduceMul, syd, sye, syf, syg, syh, reduceCtorEq, ptr_cells, hbx]
  exact R_out ((Keep.refl _ _).alloc _)
set_option maxHeartbeats 4000000 in
theorem commit_spec {G : Gh} {κ : Nat} {w : World} {q size came : Nat} {D : Dsk} {v : Value} {ps : List Pg} {xs : List Value} (h : LogAt G κ w q size came D) (hp : PagesH G κ w v ps xs) (hl : ps.length ≤ 1048576) (ho : D.ops.length < 700000) :
    Calls Try.prog 14 #[.pointer (some ⟨q, 0, none⟩), v] w (Ret fun r w' => r = .int .i64 (ccode D.first.length size ps) ∧ ∃ G', LogAt G' κ w' q size came (cdone size D ps) ∧ Ext (fun c => c = κ) G w G' w') := by
  have hmost := h.cells.choose_spec.1.ok.most
  have hs1 := h.2.1
  have hs2 := h.2.2.1
  have hb1 := heap_alloc_new w (.cells #[.pointer (some ⟨q, 0, none⟩)] 23)
  have hbx : (w.alloc (.cells #[.pointer (some ⟨q, 0, none⟩)] 23)).cell? ⟨w.heap.size, 0, none⟩ = some (.pointer (some ⟨q, 0, none⟩)) := by rw [cell_block hb1]; rfl
  have hg1 : Grow w (w.alloc (.cells #[.pointer (some ⟨q, 0, none⟩)] 23)) := (Keep.refl _ _).alloc _
  have hs1w : w.heap.size < (w.alloc (.cells #[.pointer (some ⟨q, 0, none⟩)] 23)).heap.size := by simp
  apply enter14
  apply R_in
  by_cases hps : ps = []
  · simp (maxSteps := 600000) (disch := omega) only [F14, ↓sy1, sy2, sy3, readOK, sy5, sy6, Nat.reduceEqDiff, ↓reduceIte, sy7, sy8, sy9, sya, oneOf, syb, syc, Nat.reduceAdd, Nat.reduceMul, syd, sye, syf, syg, syh, reduceCtorEq, ptr_cells, hbx, hp.len, show ((ps.length : Int) = 0) = True from by simp [hps], decide_true]
    exact R_out ⟨by simp [ccode, hps], G, by simpa [cdone, hps] using h.grow hg1, .grow hg1⟩
  have hlen0 : 0 < ps.length := List.length_pos_iff.2 hps
  simp (maxSteps := 600000) (disch := omega) only [F14, ↓sy1, sy2, sy3, readOK, sy5, sy6, Nat.reduceEqDiff, ↓reduceIte, sy7, sy8, sy9, sya, oneOf, syb, syc, Nat.reduceAdd, Nat.reduceMul, syd, sye, syf, syg, syh, reduceCtorEq, ptr_cells, hbx, hp.len, show ¬ ((ps.length : Int) = 0) from by omega, decide_false]
  generalize w.alloc (.cells #[.pointer (some ⟨q, 0, none⟩)] 23) = w1 at hg1 hbx hb1 hs1w ⊢
  refine call0 (capacity_spec (h.grow hg1)) ?_
  rintro _ w2 ⟨rfl, rfl⟩
  by_cases hcap : min size 100 < ps.length
  · simp (maxSteps := 600000) (disch := omega) only [↓sy1, sy2, sy3, readOK, sy5, sy6, Nat.reduceEqDiff, ↓reduceIte, sy7, sy8, sy9, sya, oneOf, syb, syc, Nat.reduceAdd, Nat.reduceMul, syd, sye, syf, syg, syh, reduceCtorEq, show (((min size 100 : Nat) : Int) < (ps.length : Int)) from by omega, decide_true]
    exact R_out ⟨by simp [ccode, hps, hcap], G, by simpa [cdone, ccode, hps, hcap] using h.grow hg1, .grow hg1⟩
  simp (maxSteps := 600000) (disch := omega) only [↓sy1, sy2, sy3, readOK, sy5, sy6, Nat.reduceEqDiff, ↓reduceIte, sy7, sy8, sy9, sya, oneOf, syb, syc, Nat.reduceAdd, Nat.reduceMul, syd, sye, syf, syg, syh, reduceCtorEq, show ¬ (((min size 100 : Nat) : Int) < (ps.length : Int)) from by omega, decide_false]
  refine call0 (pany_spec (h.grow hg1) hbx (hp.grow hg1) hl) ?_
  rintro _ w2 ⟨rfl, hg2⟩
  have hg12 := hg1.trans hg2
  by_cases hany : anyOut (D.first.length - size - 1) ps
  · simp (maxSteps := 600000) (disch := omega) only [↓sy1, sy2, sy3, readOK, sy5, sy6, Nat.reduceEqDiff, ↓reduceIte, sy7, sy8, sy9, sya, oneOf, syb, syc, Nat.reduceAdd, Nat.reduceMul, syd, sye, syf, syg, syh, reduceCtorEq, hany, decide_true]
    exact R_out ⟨by simp [ccode, hps, hcap, hany], G, by simpa [cdone, ccode, hps, hcap, hany] using h.grow hg12, .grow hg12⟩
  have h0 := anyOut_nonneg hany
  simp (maxSteps := 600000) (disch := omega) only [↓sy1, sy2, sy3, readOK, sy5, sy6, Nat.reduceEqDiff, ↓reduceIte, sy7, sy8, sy9, sya, oneOf, syb, syc, Nat.reduceAdd, Nat.reduceMul, syd, sye, syf, syg, syh, reduceCtorEq, hany, decide_false, hp.len]
  have hbx2 := hg2.gcell hbx
  have hsz2 := hg12.size
  have hm0 := heap_alloc_new w2 (.map #[] 0)
  have hg3 : Grow w2 (w2.alloc (.map #[] 0)) := (Keep.refl _ _).alloc _
  have hmlt : w2.heap.size < (w2.alloc (.map #[] 0)).heap.size := by simp
  generalize w2.alloc (.map #[] 0) = w3 at hm0 hg3 hmlt ⊢
  generalize hm : w2.heap.size = m at hm0 hmlt hsz2 ⊢
  have hg13 := hg12.trans hg3
  have hcgood : goodP ps → ccode D.first.length size ps = 0 := fun hg => by simp [ccode, hps, hcap, hany, hg]
  have hcbad : ¬ goodP ps → ccode D.first.length size ps = 3 ∧ cdone size D ps = D := fun hg => by simp [cdone, ccode, hps, hcap, hany, hg]
  have hunder : Try.prog.underlying 74 = some (.map 3 28) := by kernel_rfl
  have hunderK : Try.prog.underlying 3 = some (.int .i64) := by kernel_rfl
  refine loop_rule (fun e w' => ∃ i : Nat, i ≤ ps.length ∧ e 31 = .int .i64 i ∧ e 30 = .int .i64 ps.length ∧ e 29 = v ∧ e 5 = .map (some m) ∧ e 2 = .pointer (some ⟨w.heap.size, 0, none⟩) ∧ e 1 = v ∧
      ((ps.take i).map (·.1)).Nodup ∧ (∀ j (hj : j < ps.length), j < i → ps[j].2.length = 512) ∧ Keep (fun b => b = m) w3 w' ∧ w'.heap[m]? = some (.map (ents ps xs i) i)) (fun e _ => ps.length - (intOf (e 31)).toNat)
    ⟨0, by omega, by simp [upd, updO, ev], by simp [upd, updO, ev], by simp [upd, updO, ev], by simp [upd, updO, ev], by simp [upd, updO, ev], by simp [upd, updO, ev], by simp, fun j _ hj => by omega, Keep.refl _ _, by simpa [ents] using hm0⟩ ?_
  rintro e w4 ⟨i, hi, e31, e30, e29, e5, e2, e1, hnd, h512, hk4, hm4⟩
  have hg4 : Grow w w4 := hg13.then hk4 (fun b hb hbm => by omega)
  by_cases hlt : i < ps.length
  · obtain ⟨a, u, ha, hld, hxu, hu⟩ := (hp.grow hg4).at hlt
    have huc := hu.1.isCell
    have hp0 := heap_alloc_new w4 (.cells #[.int .i64 0, .slice none 0 0] 37)
    have hga : Grow w4 (w4.alloc (.cells #[.int .i64 0, .slice none 0 0] 37)) := (Keep.refl _ _).alloc _
    obtain ⟨w5, hst, hp5, hk5⟩ := stn2 (x := .int .i64 ps[i].1) (y := u) hp0 rfl huc
    have hg5 : Grow w4 w5 := hga.then hk5 (fun b hb hbm => by omega)
    have hc0 : w5.cell? ⟨w4.heap.size, 0, none⟩ = some (.int .i64 ps[i].1) := by rw [cell_block hp5]; rfl
    have hc1 : w5.cell? ⟨w4.heap.size, 1, none⟩ = some u := by rw [cell_block hp5]; rfl
    have hm5 := hg5.gheap hm4
    have hlen : ∀ w', lenF w' 0 u = some (.int .i64 ps[i].2.length) := fun w' => by rw [Has.lenB hu.1]
    have hout : ∀ {w' : World}, Grow w w' → ¬ goodP ps → R ((Value.int .i64 3) = .int .i64 (ccode D.first.length size ps) ∧ ∃ G', LogAt G' κ w' q size came (cdone size D ps) ∧ Ext (fun c => c = κ) G w G' w') := fun {w'} hgw hbad => by
      obtain ⟨c1, c2⟩ := hcbad hbad
      exact R_out ⟨by rw [c1], G, by rw [c2]; exact h.grow hgw, .grow hgw⟩
    by_cases hin : ps[i].1 ∈ (ps.take i).map (·.1)
    · have hbad : ¬ goodP ps := fun hg => by
        have h1 := hg.1
        rw [← List.take_append_drop i ps, List.map_append, List.nodup_append] at h1
        refine h1.2.2 _ hin ps[i].1 (List.mem_map.2 ⟨ps[i], ?_, rfl⟩) rfl
        exact List.mem_iff_getElem?.2 ⟨0, by simp [List.getElem?_eq_getElem hlt]⟩
      obtain ⟨r, hr, hre⟩ := List.mem_map.1 hin
      obtain ⟨j, hj, hjr⟩ := List.getElem_of_mem hr
      have hji : j < i := by simp at hj; omega
      have hjp : (ps[j]'(by omega)).1 = ps[i].1 := by rw [← hre, ← hjr]; simp
      have hf := ents_find ps xs hi hnd hji
      rw [hjp] at hf
      obtain ⟨_, u', _, _, hxu', hu'⟩ := (hp.grow hg4).at (i := j) (by omega)
      rw [List.getD_eq_getElem?_getD, hxu'] at hf
      have hlk := lkp_eq (z := .slice none 0 0) hm5 (ents_keyed ps xs i) hf
      obtain ⟨b, hb, hbn⟩ := hu'.1.isnil
      have hbf : b = false := by
        cases b with
        | false => rfl
        | true =>
          have h3 := (hbn rfl).1
          have h4 := congrArg List.length h3
          have h5 := h512 j (by omega) hji
          rw [bs_length, h5] at h4; cases h4
      subst hbf
      simp (maxSteps := 600000) (disch := omega) only [F14_L0, ↓sy1, sy2, sy3, readOK, sy5, sy6, Nat.reduceEqDiff, ↓reduceIte, sy7, sy8, sy9, sya, oneOf, syb, syc, Nat.reduceAdd, Nat.reduceMul, syd, sye, syf, syg, syh, reduceCtorEq, e31, e30, e29, e5, e2, e1, Int.ofNat_lt, hlt, decide_true, ha, hld, agg2_cells (x := .int .i64 0) (y := .slice none 0 0) rfl rfl, hst, hc0, hc1, Option.getD_some, hlk, hb true, hlen]
      exact hout (hg4.trans hg5) hbad
    · have hf := ents_none ps xs hi hin
      have hlk := lkp_none (z := .slice none 0 0) hm5 (ents_keyed ps xs i) hf
      have hnil : eqnF 1 true (.slice none 0 0) = some (.bool false) := rfl
      by_cases h5 : ps[i].2.length = 512
      · simp (maxSteps := 600000) (disch := omega) only [F14_L0, ↓sy1, sy2, sy3, readOK, sy5, sy6, Nat.reduceEqDiff, ↓reduceIte, sy7, sy8, sy9, sya, oneOf, syb, syc, Nat.reduceAdd, Nat.reduceMul, syd, sye, syf, syg, syh, reduceCtorEq, e31, e30, e29, e5, e2, e1, Int.ofNat_lt, hlt, decide_true, ha, hld, agg2_cells (x := .int .i64 0) (y := .slice none 0 0) rfl rfl, hst, hc0, hc1, hlk, hnil, hlen, show ((ps[i].2.length : Int) = 512) = True from by simp [h5], decide_true, Bool.not_true]
        refine put_rule (kk := .i64) (n := ps[i].1) (v := u) (by simp only [upd_at, Nat.reduceEqDiff, reduceIte, ev_tmp, ev_const, List.map_cons, List.map_nil, e5]) (by simp only [upd_at, Nat.reduceEqDiff, reduceIte, ev_tmp, ev_const, List.map_cons, List.map_nil]) (by simp only [upd_at, Nat.reduceEqDiff, reduceIte, ev_tmp, ev_const, List.map_cons, List.map_nil]) hunder hunderK hm5 (ents_keyed ps xs i) (fun hno w6 hk6 hm6 => ?_) (fun j y hj hyk => absurd ?_ hin)
        · have hent : (⟨.int .i64 ps[i].1, u, i⟩ : MapEntry) = ent ps xs i := by simp [ent, List.getElem?_eq_getElem hlt, hxu]
          rw [hent, ents_push] at hm6
          simp (maxSteps := 600000) (disch := omega) only [↓sy1, sy2, sy3, readOK, sy5, sy6, Nat.reduceEqDiff, ↓reduceIte, sy7, sy8, sy9, sya, oneOf, syb, syc, Nat.reduceAdd, Nat.reduceMul, syd, sye, syf, syg, syh, reduceCtorEq, e31, e30, e29, e5, e2, e1]
          refine R_out ⟨⟨i + 1, by omega, rfl, ?_, fun j hj hji => ?_, ?_, hm6⟩, ?_⟩
          · rw [List.take_succ_eq_append_getElem hlt, List.map_append, List.nodup_append]
            refine ⟨hnd, by simp, fun a ha b hb => ?_⟩
            simp at hb; subst hb
            intro hab; subst hab; exact hin ha
          · by_cases hj' : j = i
            · subst hj'; exact h5
            · exact h512 j hj (by omega)
          · exact (hk4.then hg5 (fun _ _ h => h.elim)).then hk6 (fun b hb hbm => hbm)
          · simp only [intOf]; omega
        · have h6 := ents_keys ps xs hi
          have h7 : y.key ∈ ints ((ps.take i).map (·.1)) := by rw [← h6]; exact List.mem_map.2 ⟨y, List.mem_of_getElem? hj, rfl⟩
          rw [hyk, ints, List.mem_map] at h7
          obtain ⟨a, ha, hae⟩ := h7
          cases hae; exact ha
      · simp (maxSteps := 600000) (disch := omega) only [F14_L0, ↓sy1, sy2, sy3, readOK, sy5, sy6, Nat.reduceEqDiff, ↓reduceIte, sy7, sy8, sy9, sya, oneOf, syb, syc, Nat.reduceAdd, Nat.reduceMul, syd, sye, syf, syg, syh, reduceCtorEq, e31, e30, e29, e5, e2, e1, Int.ofNat_lt, hlt, decide_true, ha, hld, agg2_cells (x := .int .i64 0) (y := .slice none 0 0) rfl rfl, hst, hc0, hc1, hlk, hnil, hlen, show ¬ ((ps[i].2.length : Int) = 512) from by omega, decide_false, Bool.not_false]
        exact hout (hg4.trans hg5) (fun hg => h5 (hg.2 _ (List.getElem_mem hlt)))
  · have hie : i = ps.length := by omega
    subst hie
    rw [List.take_length] at hnd
    have hgood : goodP ps := ⟨hnd, fun p hp => by
      obtain ⟨j, hj, rfl⟩ := List.getElem_of_mem hp
      exact h512 j hj hj⟩
    have hcc := hcgood hgood
    have hcd : cdone size D ps = grouped size D (sortP ps) := by simp [cdone, hps, hcc]
    rw [hcc, hcd]
    simp (maxSteps := 600000) (disch := omega) only [F14_L0, ↓sy1, sy2, sy3, readOK, sy5, sy6, Nat.reduceEqDiff, ↓reduceIte, sy7, sy8, sy9, sya, oneOf, syb, syc, Nat.reduceAdd, Nat.reduceMul, syd, sye, syf, syg, syh, reduceCtorEq, e31, e30, e29, e5, e2, e1, Int.ofNat_lt, hlt, decide_false]
    refine call0 keys_spec ?_
    rintro _ w5 ⟨rfl, rfl⟩
    have hb5 := heap_alloc_new w4 (.cells #[.map (some m)] 74)
    have hg5 : Grow w4 (w4.alloc (.cells #[.map (some m)] 74)) := (Keep.refl _ _).alloc _
    simp (maxSteps := 600000) (disch := omega) only [↓sy1, sy2, sy3, readOK, sy5, sy6, Nat.reduceEqDiff, ↓reduceIte, sy7, sy8, sy9, sya, oneOf, syb, syc, Nat.reduceAdd, Nat.reduceMul, syd, sye, syf, syg, syh, reduceCtorEq]
    generalize w4.alloc (.cells #[.map (some m)] 74) = w5 at hb5 hg5 ⊢
    have hbc5 : w5.cell? ⟨w4.heap.size, 0, none⟩ = some (.map (some m)) := by rw [cell_block hb5]; rfl
    have hks := ents_keys ps xs (Nat.le_refl ps.length)
    rw [List.take_length] at hks
    have hnum : ∀ a ∈ ps.map (·.1), 0 ≤ a ∧ a < 1099511627776 := fun a ha => by
      obtain ⟨p, hp, rfl⟩ := List.mem_map.1 ha
      have h1 := h0 p hp
      have h2 : ¬ outOf (D.first.length - size - 1) p.1 := fun hc => hany ⟨p, hp, hc⟩
      simp only [outOf] at h2
      omega
    have hsg := hg4.trans hg5
    refine call0 (sorted_spec hbc5 (hg5.gheap hm4) (ents_ok ps xs (Nat.le_refl _) (by rw [List.take_length]; exact hnd)) hks hnum (by simp; omega)) ?_
    rintro nv w6 ⟨hnv, hg6⟩
    rw [sortP_keys hnd h0] at hnv
    have hg6w := hsg.trans hg6
    have hx6 : Ext (fun c => c = κ) G w (G.new w.heap.size) w6 := .newB hg6w
    have hκ := h.1
    have hnew : ∀ b, w.heap.size ≤ b → (G.new w.heap.size).own b ≠ κ := fun b hb hc => hκ (by rw [Gh.new_own hb] at hc; exact hc.symm)
    have hlog6 : LogAt (G.new w.heap.size) κ w6 q size came D := h.ext (K := fun _ => False) (.newB hg6w) id id
    have hp6 := hp.ext hx6
    have hnvH : Held (G.new w.heap.size) κ w6 nv (ints (zs ((sortP ps).map (·.1)))) := ⟨Has.own hnv, fun b hb _ => by
      obtain ⟨hbb, hbl⟩ := World.ownsRow.lt hnv b hb
      exact ⟨hbl, hnew b (Nat.le_trans hsg.size hbb)⟩⟩
    have hm6 := (hg5.trans hg6).gheap hm4
    have hbx6 := ((hg2.trans hg3).then hk4 (fun b hb hbm => by have := hg2.size; omega) |>.trans (hg5.trans hg6)).gcell hbx
    have hml : m < w6.heap.size := (Array.getElem?_eq_some_iff.1 hm6).1
    generalize hG6 : G.new w.heap.size = G6 at hx6 hnew hlog6 hp6 hnvH
    clear hnv hg6 hg5 hb5 hbc5 hsg hks
    have hsl := sortP_length ps
    have hnl : ∀ w', lenF w' 0 nv = some (.int .i64 (sortP ps).length) := fun w' => by rw [Has.lenI hnvH.1]; simp
    simp (maxSteps := 600000) (disch := omega) only [↓sy1, sy2, sy3, readOK, sy5, sy6, Nat.reduceEqDiff, ↓reduceIte, sy7, sy8, sy9, sya, oneOf, syb, syc, Nat.reduceAdd, Nat.reduceMul, syd, sye, syf, syg, syh, reduceCtorEq, hnl]
    have hcl := Nat.le_of_not_lt hcap
    have hqb := sortP_bytes h0 hgood.2
    have hql := sortP_lt (pages := D.first.length - size - 1) h0 hany
    have hqn := nodup_lt (sortP_rising hnd h0)
    refine loop_rule (fun e w' => ∃ (i : Nat) (G' : Gh), i ≤ (sortP ps).length ∧ e 57 = .int .i64 i ∧ e 56 = .int .i64 (sortP ps).length ∧ e 55 = nv ∧ e 8 = nv ∧ e 5 = .map (some m) ∧ e 2 = .pointer (some ⟨w.heap.size, 0, none⟩) ∧
        LogAt G' κ w' q size came (adds D (copyOps 0 ((sortP ps).take i))) ∧ Ext (fun c => c = κ) G6 w6 G' w') (fun e _ => (sortP ps).length - (intOf (e 57)).toNat)
      ⟨0, G6, by omega, by simp [upd, updO, ev], by simp [upd, updO, ev], by simp [upd, updO, ev], by simp [upd, updO, ev], by simp [upd, updO, ev, e5], by simp [upd, updO, ev, e2], hlog6, .refl _ _ _⟩ ?_
    rintro e w7 ⟨i, G7, hi, e57, e56, e55, e8, e5, e2, hlog7, hx7⟩
    have hcells7 := hlog7
    obtain ⟨_, _, _, ho7, p, hq7, hd7⟩ := hcells7
    have hqp : ∀ {w'}, Grow w7 w' → w'.cell? ⟨q, 0, none⟩ = some (.pointer (some ⟨p, 0, none⟩)) ∧ w'.cell? ⟨q, 1, none⟩ = some (.int .i64 size) := fun hg => ⟨by rw [cell_block (hg.gheap hq7)]; rfl, by rw [cell_block (hg.gheap hq7)]; rfl⟩
    have hbx7 := hx7.keep.cell hbx6 (hnew _ (Nat.le_refl _))
    have hm7 := hx7.keep.heap hm6 (hnew _ (by omega))
    have hf : (adds D (copyOps 0 ((sortP ps).take i))).first = D.first := adds_first _ _
    have hops : (adds D (copyOps 0 ((sortP ps).take i))).ops.length ≤ D.ops.length + i := by
      rw [adds_ops, List.length_append, copyOps_length]; simp; omega
    by_cases hlt7 : i < (sortP ps).length
    · obtain ⟨a, ha, hac, _⟩ := Has.getI (l := zs ((sortP ps).map (·.1))) (hnvH.ext hx7).1 (i := i) (by simpa using hlt7)
      have hz : (zs ((sortP ps).map (·.1)))[i]'(by simpa using hlt7) = (((sortP ps)[i].1 : Nat) : Int) := by simp
      rw [hz] at hac
      simp (maxSteps := 600000) (disch := omega) only [F14_L1, ↓sy1, sy2, sy3, readOK, sy5, sy6, Nat.reduceEqDiff, ↓reduceIte, sy7, sy8, sy9, sya, oneOf, syb, syc, Nat.reduceAdd, Nat.reduceMul, syd, sye, syf, syg, syh, reduceCtorEq, e57, e56, e55, e8, e5, e2, Int.ofNat_lt, hlt7, decide_true, ha, hac]
      refine draw14_0 (fun _ => False) ?_
      have hgd : Grow w7 w7.drew := (Keep.refl _ _).drew
      generalize w7.drew = w8 at hgd ⊢
      have hmem : ((((sortP ps)[i].1 : Nat) : Int), (sortP ps)[i].2) ∈ ps := (sortP_mem h0).1 (List.getElem_mem hlt7)
      obtain ⟨j, hj, hjp⟩ := List.getElem_of_mem hmem
      have hf8 := ents_find ps xs (Nat.le_refl _) (by rw [List.take_length]; exact hnd) hj
      rw [hjp] at hf8
      obtain ⟨_, u, _, _, hxu, hu⟩ := (hp6.ext (hx7.trans (.grow hgd))).at hj
      rw [List.getD_eq_getElem?_getD, hxu, Option.getD_some] at hf8
      rw [hjp] at hu
      have hlk := lkp_eq (z := .slice none 0 0) (hgd.gheap hm7) (ents_keyed ps xs _) hf8
      simp (maxSteps := 600000) (disch := omega) only [PL14_0, ↓sy1, sy2, sy3, readOK, sy5, sy6, Nat.reduceEqDiff, ↓reduceIte, sy7, sy8, sy9, sya, oneOf, syb, syc, Nat.reduceAdd, Nat.reduceMul, syd, sye, syf, syg, syh, reduceCtorEq, e57, e56, e55, e8, e5, e2, hqp hgd, hgd.gcell hbx7, hlk]
      rw [show (1 : Int) + (i : Int) = ((1 + i : Nat) : Int) from by omega]
      refine call0 (write_spec (hd7.grow hgd) (n := 1 + i) (by rw [hf]; omega) (hqb _ (List.getElem_mem hlt7)) hu.1 (by omega)) ?_
      rintro _ w9 ⟨rfl, G9, hd9, hx9⟩
      simp (maxSteps := 600000) (disch := omega) only [↓sy1, sy2, sy3, readOK, sy5, sy6, Nat.reduceEqDiff, ↓reduceIte, sy7, sy8, sy9, sya, oneOf, syb, syc, Nat.reduceAdd, Nat.reduceMul, syd, sye, syf, syg, syh, reduceCtorEq, e57, e56, e55, e8, e5, e2]
      have hx79 : Ext (fun c => c = κ) G7 w7 G9 w9 := (Ext.grow hgd).trans hx9
      have hstep : adds D (copyOps 0 ((sortP ps).take (i + 1))) = (adds D (copyOps 0 ((sortP ps).take i))).add (.wr (1 + i) (sortP ps)[i].2) := by
        rw [copyOps_take _ 0 i hlt7, adds_snoc, show 1 + 0 + i = 1 + i from by omega]
      refine R_out ⟨⟨i + 1, G9, by omega, rfl, by rw [hstep]; exact hlog7.put (hqp (Keep.refl _ _)).1 hx79 rfl hd9, hx7.trans hx79⟩, ?_⟩
      simp only [intOf]; omega
    · have hie7 : i = (sortP ps).length := by omega
      subst hie7
      rw [List.take_length] at hlog7 hd7 hops hf
      simp (maxSteps := 600000) (disch := omega) only [F14_L1, ↓sy1, sy2, sy3, readOK, sy5, sy6, Nat.reduceEqDiff, ↓reduceIte, sy7, sy8, sy9, sya, oneOf, syb, syc, Nat.reduceAdd, Nat.reduceMul, syd, sye, syf, syg, syh, reduceCtorEq, e57, e56, e55, e8, e5, e2, Int.ofNat_lt, hlt7, decide_false, hqp (Keep.refl _ _), hbx7]
      refine call0 (flush_spec hd7 (by omega)) ?_
      rintro _ w8 ⟨rfl, G8, hd8, hx8⟩
      have hlog8 := hlog7.put (E := (adds D (copyOps 0 (sortP ps))).add .fl) (hqp (Keep.refl _ _)).1 hx8 rfl hd8
      have hx68 := hx7.trans hx8
      have hbx8 := hx68.keep.cell hbx6 (hnew _ (Nat.le_refl _))
      simp (maxSteps := 600000) (disch := omega) only [↓sy1, sy2, sy3, readOK, sy5, sy6, Nat.reduceEqDiff, ↓reduceIte, sy7, sy8, sy9, sya, oneOf, syb, syc, Nat.reduceAdd, Nat.reduceMul, syd, sye, syf, syg, syh, reduceCtorEq, e57, e56, e55, e8, e5, e2, hbx8]
      refine call0 (setHead_spec hlog8 (hnvH.ext hx68).1 (by rw [List.length_map]; omega) (by simp [Dsk.add]; omega)) ?_
      rintro _ w9 ⟨G9, hlog9, hx9⟩
      have hx69 := hx68.trans hx9
      have hbx9 := hx69.keep.cell hbx6 (hnew _ (Nat.le_refl _))
      simp (maxSteps := 600000) (disch := omega) only [↓sy1, sy2, sy3, readOK, sy5, sy6, Nat.reduceEqDiff, ↓reduceIte, sy7, sy8, sy9, sya, oneOf, syb, syc, Nat.reduceAdd, Nat.reduceMul, syd, sye, syf, syg, syh, reduceCtorEq, e57, e56, e55, e8, e5, e2, hbx9]
      refine call0 (home_spec hlog9 (hnvH.ext hx69) (by omega) (fun p hp => ⟨hqb p hp, ?_⟩) (fun i hi => ?_) (by simp [Dsk.add]; omega)) ?_
      · have := hql p hp
        simp only [Dsk.add, hf]; omega
      · rw [Dsk.image_fl, Dsk.image_wr, Dsk.image_fl, List.getElem?_set_ne (by omega)]
        have := image_copied (sortP ps) 0 D i hi (by omega)
        rw [show 1 + 0 + i = 1 + i from by omega] at this
        exact this
      rintro _ w10 ⟨G10, hlog10, hx10⟩
      simp (maxSteps := 600000) (disch := omega) only [↓sy1, sy2, sy3, readOK, sy5, sy6, Nat.reduceEqDiff, ↓reduceIte, sy7, sy8, sy9, sya, oneOf, syb, syc, Nat.reduceAdd, Nat.reduceMul, syd, sye, syf, syg, syh, reduceCtorEq]
      have hgr : grouped size D (sortP ps) = homed size ((((adds D (copyOps 0 (sortP ps))).add .fl).add (.wr 0 (headB ((sortP ps).map (·.1))))).add .fl) (sortP ps) := by rw [grouped_eq, homed]
      exact R_out ⟨G10, by rw [hgr]; exact hlog10, hx6.trans (hx69.trans hx10)⟩
end Go.Proofs.Ytneehlkofcdhoaa
