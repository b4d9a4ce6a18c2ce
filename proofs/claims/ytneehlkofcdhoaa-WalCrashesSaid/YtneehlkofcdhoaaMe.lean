/- Texts of one claim, put together in their order: what each proves stands ahead of it. -/
import Derived.Test.YtneehlkofcdhoaaMd
import Derived.Test.YtneehlkofcdhoaaMc
import Derived.Carry
import Derived.Deep.Slices
import Derived.Lib.SmallJoins
import Derived.OpenShut
/- Commit. -/
namespace Go.Proofs.Ytneehlkofcdhoaa
open Go
set_option linter.unusedSimpArgs false
open Go.RowKit (intOf)
theorem ptr_cells (a : Option Addr) : (Value.pointer a).cells = #[.pointer a] := rfl
theorem commit_nil {w : World} {v : Value} : Calls Try.prog 14 #[.pointer none, v] w (Ret fun v w' => v = .int .i64 1 ∧ Grow w w') := by
  have hb1 := heap_alloc_new w (.cells #[.pointer none] 23)
  have hbx : (w.alloc (.cells #[.pointer none] 23)).cell? ⟨w.heap.size, 0, none⟩ = some (.pointer none) := by rw [cell_block hb1]; rfl
  apply enter14
  apply R_in
  simp (maxSteps := 600000) (disch := omega) only [F14, ↓sy1, sy2, sy3, readOK, sy5, sy6, Nat.reduceEqDiff, ↓reduceIte, sy7, sy8, sy9, sya, oneOf, syb, syc, Nat.reduceAdd, Nat.reduceMul, syd, sye, syf, syg, syh, reduceCtorEq, ptr_cells, hbx]
  exact R_out ((Keep.refl _ _).alloc _)
set_option maxHeartbeats 4000000 in
theorem commit_spec {G : Gh} {κ : Nat} {w : World} {q size came : Nat} {D : Dsk} {v : Value} {ps : List Pg} {xs : List Value} (h : LogAt G κ w q size came D) (hp : PagesH G κ w v ps xs) (hl : ps.length ≤ 1048576) (ho : D.ops.length < 700000) :
    Calls Try.prog 14 #[.pointer (some ⟨q, 0, none⟩), v] w (Ret fun r w' => r = .int .i64 (ccode D.first.length size ps) ∧ ∃ G', LogAt G' κ w' q size came (cdone size D ps) ∧ Ext (fun c => c = κ) G w G' w') := by
  have hmost := h.cells.choose_spec.1.ok.most
  have hs1 := h.2.1
  have hs2 := h.2.2.1
  have hb1 := heap_alloc_new w (.cells #[.pointer (some ⟨q, 0, none⟩)] 23)
  have hbx : (w.alloc (.cells #[.pointer (some ⟨q, 0, none⟩)] 23)).cell? ⟨w.heap.size, 0, none⟩ = some (.pointer (some ⟨q, 0, none⟩)) := by rw [cell_block hb1]; rfl
  have hg1 : Grow w (w.alloc (.cells #[.pointer (some ⟨q, 0, none⟩)] 23)) := (Keep.refl _ _).alloc _
  have hs1w : w.heap.size < (w.alloc (.cells #[.pointer (some ⟨q, 0, none⟩)] 23)).heap.size := by simp
  apply enter14
  apply R_in
  by_cases hps : ps = []
  · simp (maxSteps := 600000) (disch := omega) only [F14, ↓sy1, sy2, sy3, readOK, sy5, sy6, Nat.reduceEqDiff, ↓reduceIte, sy7, sy8, sy9, sya, oneOf, syb, syc, Nat.reduceAdd, Nat.reduceMul, syd, sye, syf, syg, syh, reduceCtorEq, ptr_cells, hbx, hp.len, show ((ps.length : Int) = 0) = True from by simp [hps], decide_true]
    exact R_out ⟨by simp [ccode, hps], G, by simpa [cdone, hps] using h.grow hg1, .grow hg1⟩
  have hlen0 : 0 < ps.length := List.length_pos_iff.2 hps
  simp (maxSteps := 600000) (disch := omega) only [F14, ↓sy1, sy2, sy3, readOK, sy5, sy6, Nat.reduceEqDiff, ↓reduceIte, sy7, sy8, sy9, sya, oneOf, syb, syc, Nat.reduceAdd, Nat.reduceMul, syd, sye, syf, syg, syh, reduceCtorEq, ptr_cells, hbx, hp.len, show ¬ ((ps.length : Int) = 0) from by omega, decide_false]
  generalize w.alloc (.cells #[.pointer (some ⟨q, 0, none⟩)] 23) = w1 at hg1 hbx hb1 hs1w ⊢
  refine call0 (capacity_spec (h.grow hg1)) ?_
  rintro _ w2 ⟨rfl, rfl⟩
  by_cases hcap : min size 100 < ps.length
  · simp (maxSteps := 600000) (disch := omega) only [↓sy1, sy2, sy3, readOK, sy5, sy6, Nat.reduceEqDiff, ↓reduceIte, sy7, sy8, sy9, sya, oneOf, syb, syc, Nat.reduceAdd, Nat.reduceMul, syd, sye, syf, syg, syh, reduceCtorEq, show (((min size 100 : Nat) : Int) < (ps.length : Int)) from by omega, decide_true]
    exact R_out ⟨by simp [ccode, hps, hcap], G, by simpa [cdone, ccode, hps, hcap] using h.grow hg1, .grow hg1⟩
  simp (maxSteps := 600000) (disch := omega) only [↓sy1, sy2, sy3, readOK, sy5, sy6, Nat.reduceEqDiff, ↓reduceIte, sy7, sy8, sy9, sya, oneOf, syb, syc, Nat.reduceAdd, Nat.reduceMul, syd, sye, syf, syg, syh, reduceCtorEq, show ¬ (((min size 100 : Nat) : Int) < (ps.length : Int)) from by omega, decide_false]
  refine call0 (pany_spec (h.grow hg1) hbx (hp.grow hg1) hl) ?_
  rintro _ w2 ⟨rfl, hg2⟩
  have hg12 := hg1.trans hg2
  by_cases hany : anyOut (D.first.length - size - 1) ps
  · simp (maxSteps := 600000) (disch := omega) only [↓sy1, sy2, sy3, readOK, sy5, sy6, Nat.reduceEqDiff, ↓reduceIte, sy7, sy8, sy9, sya, oneOf, syb, syc, Nat.reduceAdd, Nat.reduceMul, syd, sye, syf, syg, syh, reduceCtorEq, hany, decide_true]
    exact R_out ⟨by simp [ccode, hps, hcap, hany], G, by simpa [cdone, ccode, hps, hcap, hany] using h.grow hg12, .grow hg12⟩
  have h0 := anyOut_nonneg hany
  simp (maxSteps := 600000) (disch := omega) only [↓sy1, sy2, sy3, readOK, sy5, sy6, Nat.reduceEqDiff, ↓reduceIte, sy7, sy8, sy9, sya, oneOf, syb, syc, Nat.reduceAdd, Nat.reduceMul, syd, sye, syf, syg, syh, reduceCtorEq, hany, decide_false, hp.len]
  have hbx2 := hg2.gcell hbx
  have hsz2 := hg12.size
  have hm0 := heap_alloc_new w2 (.map #[] 0)
  have hg3 : Grow w2 (w2.alloc (.map #[] 0)) := (Keep.refl _ _).alloc _
  have hmlt : w2.heap.size < (w2.alloc (.map #[] 0)).heap.size := by simp
  generalize w2.alloc (.map #[] 0) = w3 at hm0 hg3 hmlt ⊢
  generalize hm : w2.heap.size = m at hm0 hmlt hsz2 ⊢
  have hg13 := hg12.trans hg3
  have hcgood : goodP ps → ccode D.first.length size ps = 0 := fun hg => by simp [ccode, hps, hcap, hany, hg]
  have hcbad : ¬ goodP ps → ccode D.first.length size ps = 3 ∧ cdone size D ps = D := fun hg => by simp [cdone, ccode, hps, hcap, hany, hg]
  have hunder : Try.prog.underlying 74 = some (.map 3 28) := by kernel_rfl
  have hunderK : Try.prog.underlying 3 = some (.int .i64) := by kernel_rfl
  refine loop_rule (fun e w' => ∃ i : Nat, i ≤ ps.length ∧ e 31 = .int .i64 i ∧ e 30 = .int .i64 ps.length ∧ e 29 = v ∧ e 5 = .map (some m) ∧ e 2 = .pointer (some ⟨w.heap.size, 0, none⟩) ∧ e 1 = v ∧
      ((ps.take i).map (·.1)).Nodup ∧ (∀ j (hj : j < ps.length), j < i → ps[j].2.length = 512) ∧ Keep (fun b => b = m) w3 w' ∧ w'.heap[m]? = some (.map (ents ps xs i) i)) (fun e _ => ps.length - (intOf (e 31)).toNat)
    ⟨0, by omega, by simp [upd, updO, ev], by simp [upd, updO, ev], by simp [upd, updO, ev], by simp [upd, updO, ev], by simp [upd, updO, ev], by simp [upd, updO, ev], by simp, fun j _ hj => by omega, Keep.refl _ _, by simpa [ents] using hm0⟩ ?_
  rintro e w4 ⟨i, hi, e31, e30, e29, e5, e2, e1, hnd, h512, hk4, hm4⟩
  have hg4 : Grow w w4 := hg13.then hk4 (fun b hb hbm => by omega)
  by_cases hlt : i < ps.length
  · obtain ⟨a, u, ha, hld, hxu, hu⟩ := (hp.grow hg4).at hlt
    have huc := hu.1.isCell
    have hp0 := heap_alloc_new w4 (.cells #[.int .i64 0, .slice none 0 0] 37)
    have hga : Grow w4 (w4.alloc (.cells #[.int .i64 0, .slice none 0 0] 37)) := (Keep.refl _ _).alloc _
    obtain ⟨w5, hst, hp5, hk5⟩ := stn2 (x := .int .i64 ps[i].1) (y := u) hp0 rfl huc
    have hg5 : Grow w4 w5 := hga.then hk5 (fun b hb hbm => by omega)
    have hc0 : w5.cell? ⟨w4.heap.size, 0, none⟩ = some (.int .i64 ps[i].1) := by rw [cell_block hp5]; rfl
    have hc1 : w5.cell? ⟨w4.heap.size, 1, none⟩ = some u := by rw [cell_block hp5]; rfl
    have hm5 := hg5.gheap hm4
    have hlen : ∀ w', lenF w' 0 u = some (.int .i64 ps[i].2.length) := fun w' => by rw [Has.lenB hu.1]
    have hout : ∀ {w' : World}, Grow w w' → ¬ goodP ps → R ((Value.int .i64 3) = .int .i64 (ccode D.first.length size ps) ∧ ∃ G', LogAt G' κ w' q size came (cdone size D ps) ∧ Ext (fun c => c = κ) G w G' w') := fun {w'} hgw hbad => by
      obtain ⟨c1, c2⟩ := hcbad hbad
      exact R_out ⟨by rw [c1], G, by rw [c2]; exact h.grow hgw, .grow hgw⟩
    by_cases hin : ps[i].1 ∈ (ps.take i).map (·.1)
    · have hbad : ¬ goodP ps := fun hg => by
        have h1 := hg.1
        rw [← List.take_append_drop i ps, List.map_append, List.nodup_append] at h1
        refine h1.2.2 _ hin ps[i].1 (List.mem_map.2 ⟨ps[i], ?_, rfl⟩) rfl
        exact List.mem_iff_getElem?.2 ⟨0, by simp [List.getElem?_eq_getElem hlt]⟩
      obtain ⟨r, hr, hre⟩ := List.mem_map.1 hin
      obtain ⟨j, hj, hjr⟩ := List.getElem_of_mem hr
      have hji : j < i := by simp at hj; omega
      have hjp : (ps[j]'(by omega)).1 = ps[i].1 := by rw [← hre, ← hjr]; simp
      have hf := ents_find ps xs hi hnd hji
      rw [hjp] at hf
      obtain ⟨_, u', _, _, hxu', hu'⟩ := (hp.grow hg4).at (i := j) (by omega)
      rw [List.getD_eq_getElem?_getD, hxu'] at hf
      have hlk := lkp_eq (z := .slice none 0 0) hm5 (ents_keyed ps xs i) hf
      obtain ⟨b, hb, hbn⟩ := hu'.1.isnil
      have hbf : b = false := by
        cases b with
        | false => rfl
        | true =>
          have h3 := (hbn rfl).1
          have h4 := congrArg List.length h3
          have h5 := h512 j (by omega) hji
          rw [bs_length, h5] at h4; cases h4
      subst hbf
      simp (maxSteps := 600000) (disch := omega) only [F14_L0, ↓sy1, sy2, sy3, readOK, sy5, sy6, Nat.reduceEqDiff, ↓reduceIte, sy7, sy8, sy9, sya, oneOf, syb, syc, Nat.reduceAdd, Nat.reduceMul, syd, sye, syf, syg, syh, reduceCtorEq, e31, e30, e29, e5, e2, e1, Int.ofNat_lt, hlt, decide_true, ha, hld, agg2_cells (x := .int .i64 0) (y := .slice none 0 0) rfl rfl, hst, hc0, hc1, Option.getD_some, hlk, hb true, hlen]
      exact hout (hg4.trans hg5) hbad
    · have hf := ents_none ps xs hi hin
      have hlk := lkp_none (z := .slice none 0 0) hm5 (ents_keyed ps xs i) hf
      have hnil : eqnF 1 true (.slice none 0 0) = some (.bool false) := rfl
      by_cases h5 : ps[i].2.length = 512
      · simp (maxSteps := 600000) (disch := omega) only [F14_L0, ↓sy1, sy2, sy3, readOK, sy5, sy6, Nat.reduceEqDiff, ↓reduceIte, sy7, sy8, sy9, sya, oneOf, syb, syc, Nat.reduceAdd, Nat.reduceMul, syd, sye, syf, syg, syh, reduceCtorEq, e31, e30, e29, e5, e2, e1, Int.ofNat_lt, hlt, decide_true, ha, hld, agg2_cells (x := .int .i64 0) (y := .slice none 0 0) rfl rfl, hst, hc0, hc1, hlk, hnil, hlen, show ((ps[i].2.length : Int) = 512) = True from by simp [h5], decide_true, Bool.not_true]
        refine put_rule (kk := .i64) (n := ps[i].1) (v := u) (by simp only [upd_at, Nat.reduceEqDiff, reduceIte, ev_tmp, ev_const, List.map_cons, List.map_nil, e5]) (by simp only [upd_at, Nat.reduceEqDiff, reduceIte, ev_tmp, ev_const, List.map_cons, List.map_nil]) (by simp only [upd_at, Nat.reduceEqDiff, reduceIte, ev_tmp, ev_const, List.map_cons, List.map_nil]) hunder hunderK hm5 (ents_keyed ps xs i) (fun hno w6 hk6 hm6 => ?_) (fun j y hj hyk => absurd ?_ hin)
        · have hent : (⟨.int .i64 ps[i].1, u, i⟩ : MapEntry) = ent ps xs i := by simp [ent, List.getElem?_eq_getElem hlt, hxu]
          rw [hent, ents_push] at hm6
          simp (maxSteps := 600000) (disch := omega) only [↓sy1, sy2, sy3, readOK, sy5, sy6, Nat.reduceEqDiff, ↓reduceIte, sy7, sy8, sy9, sya, oneOf, syb, syc, Nat.reduceAdd, Nat.reduceMul, syd, sye, syf, syg, syh, reduceCtorEq, e31, e30, e29, e5, e2, e1]
          refine R_out ⟨⟨i + 1, by omega, rfl, ?_, fun j hj hji => ?_, ?_, hm6⟩, ?_⟩
          · rw [List.take_succ_eq_append_getElem hlt, List.map_append, List.nodup_append]
            refine ⟨hnd, by simp, fun a ha b hb => ?_⟩
            simp at hb; subst hb
            intro hab; subst hab; exact hin ha
          · by_cases hj' : j = i
            · subst hj'; exact h5
            · exact h512 j hj (by omega)
          · exact (hk4.then hg5 (fun _ _ h => h.elim)).then hk6 (fun b hb hbm => hbm)
          · simp only [intOf]; omega
        · have h6 := ents_keys ps xs hi
          have h7 : y.key ∈ ints ((ps.take i).map (·.1)) := by rw [← h6]; exact List.mem_map.2 ⟨y, List.mem_of_getElem? hj, rfl⟩
          rw [hyk, ints, List.mem_map] at h7
          obtain ⟨a, ha, hae⟩ := h7
          cases hae; exact ha
      · simp (maxSteps := 600000) (disch := omega) only [F14_L0, ↓sy1, sy2, sy3, readOK, sy5, sy6, Nat.reduceEqDiff, ↓reduceIte, sy7, sy8, sy9, sya, oneOf, syb, syc, Nat.reduceAdd, Nat.reduceMul, syd, sye, syf, syg, syh, reduceCtorEq, e31, e30, e29, e5, e2, e1, Int.ofNat_lt, hlt, decide_true, ha, hld, agg2_cells (x := .int .i64 0) (y := .slice none 0 0) rfl rfl, hst, hc0, hc1, hlk, hnil, hlen, show ¬ ((ps[i].2.length : Int) = 512) from by omega, decide_false, Bool.not_false]
        exact hout (hg4.trans hg5) (fun hg => h5 (hg.2 _ (List.getElem_mem hlt)))
  · have hie : i = ps.length := by omega
    subst hie
    rw [List.take_length] at hnd
    have hgood : goodP ps := ⟨hnd, fun p hp => by
      obtain ⟨j, hj, rfl⟩ := List.getElem_of_mem hp
      exact h512 j hj hj⟩
    have hcc := hcgood hgood
    have hcd : cdone size D ps = grouped size D (sortP ps) := by simp [cdone, hps, hcc]
    rw [hcc, hcd]
    simp (maxSteps := 600000) (disch := omega) only [F14_L0, ↓sy1, sy2, sy3, readOK, sy5, sy6, Nat.reduceEqDiff, ↓reduceIte, sy7, sy8, sy9, sya, oneOf, syb, syc, Nat.reduceAdd, Nat.reduceMul, syd, sye, syf, syg, syh, reduceCtorEq, e31, e30, e29, e5, e2, e1, Int.ofNat_lt, hlt, decide_false]
    refine call0 keys_spec ?_
    rintro _ w5 ⟨rfl, rfl⟩
    have hb5 := heap_alloc_new w4 (.cells #[.map (some m)] 74)
    have hg5 : Grow w4 (w4.alloc (.cells #[.map (some m)] 74)) := (Keep.refl _ _).alloc _
    simp (maxSteps := 600000) (disch := omega) only [↓sy1, sy2, sy3, readOK, sy5, sy6, Nat.reduceEqDiff, ↓reduceIte, sy7, sy8, sy9, sya, oneOf, syb, syc, Nat.reduceAdd, Nat.reduceMul, syd, sye, syf, syg, syh, reduceCtorEq]
    generalize w4.alloc (.cells #[.map (some m)] 74) = w5 at hb5 hg5 ⊢
    have hbc5 : w5.cell? ⟨w4.heap.size, 0, none⟩ = some (.map (some m)) := by rw [cell_block hb5]; rfl
    have hks := ents_keys ps xs (Nat.le_refl ps.length)
    rw [List.take_length] at hks
    have hnum : ∀ a ∈ ps.map (·.1), 0 ≤ a ∧ a < 1099511627776 := fun a ha => by
      obtain ⟨p, hp, rfl⟩ := List.mem_map.1 ha
      have h1 := h0 p hp
      have h2 : ¬ outOf (D.first.length - size - 1) p.1 := fun hc => hany ⟨p, hp, hc⟩
      simp only [outOf] at h2
      omega
    have hsg := hg4.trans hg5
    refine call0 (sorted_spec hbc5 (hg5.gheap hm4) (ents_ok ps xs (Nat.le_refl _) (by rw [List.take_length]; exact hnd)) hks hnum (by simp; omega)) ?_
    rintro nv w6 ⟨hnv, hg6⟩
    rw [sortP_keys hnd h0] at hnv
    have hg6w := hsg.trans hg6
    have hx6 : Ext (fun c => c = κ) G w (G.new w.heap.size) w6 := .newB hg6w
    have hκ := h.1
    have hnew : ∀ b, w.heap.size ≤ b → (G.new w.heap.size).own b ≠ κ := fun b hb hc => hκ (by rw [Gh.new_own hb] at hc; exact hc.symm)
    have hlog6 : LogAt (G.new w.heap.size) κ w6 q size came D := h.ext (K := fun _ => False) (.newB hg6w) id id
    have hp6 := hp.ext hx6
    have hnvH : Held (G.new w.heap.size) κ w6 nv (ints (zs ((sortP ps).map (·.1)))) := ⟨Has.own hnv, fun b hb _ => by
      obtain ⟨hbb, hbl⟩ := World.ownsRow.lt hnv b hb
      exact ⟨hbl, hnew b (Nat.le_trans hsg.size hbb)⟩⟩
    have hm6 := (hg5.trans hg6).gheap hm4
    have hbx6 := ((hg2.trans hg3).then hk4 (fun b hb hbm => by have := hg2.size; omega) |>.trans (hg5.trans hg6)).gcell hbx
    have hml : m < w6.heap.size := (Array.getElem?_eq_some_iff.1 hm6).1
    generalize hG6 : G.new w.heap.size = G6 at hx6 hnew hlog6 hp6 hnvH
    clear hnv hg6 hg5 hb5 hbc5 hsg hks
    have hsl := sortP_length ps
    have hnl : ∀ w', lenF w' 0 nv = some (.int .i64 (sortP ps).length) := fun w' => by rw [Has.lenI hnvH.1]; simp
    simp (maxSteps := 600000) (disch := omega) only [↓sy1, sy2, sy3, readOK, sy5, sy6, Nat.reduceEqDiff, ↓reduceIte, sy7, sy8, sy9, sya, oneOf, syb, syc, Nat.reduceAdd, Nat.reduceMul, syd, sye, syf, syg, syh, reduceCtorEq, hnl]
    have hcl := Nat.le_of_not_lt hcap
    have hqb := sortP_bytes h0 hgood.2
    have hql := sortP_lt (pages := D.first.length - size - 1) h0 hany
    have hqn := nodup_lt (sortP_rising hnd h0)
    refine loop_rule (fun e w' => ∃ (i : Nat) (G' : Gh), i ≤ (sortP ps).length ∧ e 57 = .int .i64 i ∧ e 56 = .int .i64 (sortP ps).length ∧ e 55 = nv ∧ e 8 = nv ∧ e 5 = .map (some m) ∧ e 2 = .pointer (some ⟨w.heap.size, 0, none⟩) ∧
        LogAt G' κ w' q size came (adds D (copyOps 0 ((sortP ps).take i))) ∧ Ext (fun c => c = κ) G6 w6 G' w') (fun e _ => (sortP ps).length - (intOf (e 57)).toNat)
      ⟨0, G6, by omega, by simp [upd, updO, ev], by simp [upd, updO, ev], by simp [upd, updO, ev], by simp [upd, updO, ev], by simp [upd, updO, ev, e5], by simp [upd, updO, ev, e2], hlog6, .refl _ _ _⟩ ?_
    rintro e w7 ⟨i, G7, hi, e57, e56, e55, e8, e5, e2, hlog7, hx7⟩
    have hcells7 := hlog7
    obtain ⟨_, _, _, ho7, p, hq7, hd7⟩ := hcells7
    have hqp : ∀ {w'}, Grow w7 w' → w'.cell? ⟨q, 0, none⟩ = some (.pointer (some ⟨p, 0, none⟩)) ∧ w'.cell? ⟨q, 1, none⟩ = some (.int .i64 size) := fun hg => ⟨by rw [cell_block (hg.gheap hq7)]; rfl, by rw [cell_block (hg.gheap hq7)]; rfl⟩
    have hbx7 := hx7.keep.cell hbx6 (hnew _ (Nat.le_refl _))
    have hm7 := hx7.keep.heap hm6 (hnew _ (by omega))
    have hf : (adds D (copyOps 0 ((sortP ps).take i))).first = D.first := adds_first _ _
    have hops : (adds D (copyOps 0 ((sortP ps).take i))).ops.length ≤ D.ops.length + i := by
      rw [adds_ops, List.length_append, copyOps_length]; simp; omega
    by_cases hlt7 : i < (sortP ps).length
    · obtain ⟨a, ha, hac, _⟩ := Has.getI (l := zs ((sortP ps).map (·.1))) (hnvH.ext hx7).1 (i := i) (by simpa using hlt7)
      have hz : (zs ((sortP ps).map (·.1)))[i]'(by simpa using hlt7) = (((sortP ps)[i].1 : Nat) : Int) := by simp
      rw [hz] at hac
      simp (maxSteps := 600000) (disch := omega) only [F14_L1, ↓sy1, sy2, sy3, readOK, sy5, sy6, Nat.reduceEqDiff, ↓reduceIte, sy7, sy8, sy9, sya, oneOf, syb, syc, Nat.reduceAdd, Nat.reduceMul, syd, sye, syf, syg, syh, reduceCtorEq, e57, e56, e55, e8, e5, e2, Int.ofNat_lt, hlt7, decide_true, ha, hac]
      refine draw14_0 (fun _ => False) ?_
      have hgd : Grow w7 w7.drew := (Keep.refl _ _).drew
      generalize w7.drew = w8 at hgd ⊢
      have hmem : ((((sortP ps)[i].1 : Nat) : Int), (sortP ps)[i].2) ∈ ps := (sortP_mem h0).1 (List.getElem_mem hlt7)
      obtain ⟨j, hj, hjp⟩ := List.getElem_of_mem hmem
      have hf8 := ents_find ps xs (Nat.le_refl _) (by rw [List.take_length]; exact hnd) hj
      rw [hjp] at hf8
      obtain ⟨_, u, _, _, hxu, hu⟩ := (hp6.ext (hx7.trans (.grow hgd))).at hj
      rw [List.getD_eq_getElem?_getD, hxu, Option.getD_some] at hf8
      rw [hjp] at hu
      have hlk := lkp_eq (z := .slice none 0 0) (hgd.gheap hm7) (ents_keyed ps xs _) hf8
      simp (maxSteps := 600000) (disch := omega) only [PL14_0, ↓sy1, sy2, sy3, readOK, sy5, sy6, Nat.reduceEqDiff, ↓reduceIte, sy7, sy8, sy9, sya, oneOf, syb, syc, Nat.reduceAdd, Nat.reduceMul, syd, sye, syf, syg, syh, reduceCtorEq, e57, e56, e55, e8, e5, e2, hqp hgd, hgd.gcell hbx7, hlk]
      rw [show (1 : Int) + (i : Int) = ((1 + i : Nat) : Int) from by omega]
      refine call0 (write_spec (hd7.grow hgd) (n := 1 + i) (by rw [hf]; omega) (hqb _ (List.getElem_mem hlt7)) hu.1 (by omega)) ?_
      rintro _ w9 ⟨rfl, G9, hd9, hx9⟩
      simp (maxSteps := 600000) (disch := omega) only [↓sy1, sy2, sy3, readOK, sy5, sy6, Nat.reduceEqDiff, ↓reduceIte, sy7, sy8, sy9, sya, oneOf, syb, syc, Nat.reduceAdd, Nat.reduceMul, syd, sye, syf, syg, syh, reduceCtorEq, e57, e56, e55, e8, e5, e2]
      have hx79 : Ext (fun c => c = κ) G7 w7 G9 w9 := (Ext.grow hgd).trans hx9
      have hstep : adds D (copyOps 0 ((sortP ps).take (i + 1))) = (adds D (copyOps 0 ((sortP ps).take i))).add (.wr (1 + i) (sortP ps)[i].2) := by
        rw [copyOps_take _ 0 i hlt7, adds_snoc, show 1 + 0 + i = 1 + i from by omega]
      refine R_out ⟨⟨i + 1, G9, by omega, rfl, by rw [hstep]; exact hlog7.put (hqp (Keep.refl _ _)).1 hx79 rfl hd9, hx7.trans hx79⟩, ?_⟩
      simp only [intOf]; omega
    · have hie7 : i = (sortP ps).length := by omega
      subst hie7
      rw [List.take_length] at hlog7 hd7 hops hf
      simp (maxSteps := 600000) (disch := omega) only [F14_L1, ↓sy1, sy2, sy3, readOK, sy5, sy6, Nat.reduceEqDiff, ↓reduceIte, sy7, sy8, sy9, sya, oneOf, syb, syc, Nat.reduceAdd, Nat.reduceMul, syd, sye, syf, syg, syh, reduceCtorEq, e57, e56, e55, e8, e5, e2, Int.ofNat_lt, hlt7, decide_false, hqp (Keep.refl _ _), hbx7]
      refine call0 (flush_spec hd7 (by omega)) ?_
      rintro _ w8 ⟨rfl, G8, hd8, hx8⟩
      have hlog8 := hlog7.put (E := (adds D (copyOps 0 (sortP ps))).add .fl) (hqp (Keep.refl _ _)).1 hx8 rfl hd8
      have hx68 := hx7.trans hx8
      have hbx8 := hx68.keep.cell hbx6 (hnew _ (Nat.le_refl _))
      simp (maxSteps := 600000) (disch := omega) only [↓sy1, sy2, sy3, readOK, sy5, sy6, Nat.reduceEqDiff, ↓reduceIte, sy7, sy8, sy9, sya, oneOf, syb, syc, Nat.reduceAdd, Nat.reduceMul, syd, sye, syf, syg, syh, reduceCtorEq, e57, e56, e55, e8, e5, e2, hbx8]
      refine call0 (setHead_spec hlog8 (hnvH.ext hx68).1 (by rw [List.length_map]; omega) (by simp [Dsk.add]; omega)) ?_
      rintro _ w9 ⟨G9, hlog9, hx9⟩
      have hx69 := hx68.trans hx9
      have hbx9 := hx69.keep.cell hbx6 (hnew _ (Nat.le_refl _))
      simp (maxSteps := 600000) (disch := omega) only [↓sy1, sy2, sy3, readOK, sy5, sy6, Nat.reduceEqDiff, ↓reduceIte, sy7, sy8, sy9, sya, oneOf, syb, syc, Nat.reduceAdd, Nat.reduceMul, syd, sye, syf, syg, syh, reduceCtorEq, e57, e56, e55, e8, e5, e2, hbx9]
      refine call0 (home_spec hlog9 (hnvH.ext hx69) (by omega) (fun p hp => ⟨hqb p hp, ?_⟩) (fun i hi => ?_) (by simp [Dsk.add]; omega)) ?_
      · have := hql p hp
        simp only [Dsk.add, hf]; omega
      · rw [Dsk.image_fl, Dsk.image_wr, Dsk.image_fl, List.getElem?_set_ne (by omega)]
        have := image_copied (sortP ps) 0 D i hi (by omega)
        rw [show 1 + 0 + i = 1 + i from by omega] at this
        exact this
      rintro _ w10 ⟨G10, hlog10, hx10⟩
      simp (maxSteps := 600000) (disch := omega) only [↓sy1, sy2, sy3, readOK, sy5, sy6, Nat.reduceEqDiff, ↓reduceIte, sy7, sy8, sy9, sya, oneOf, syb, syc, Nat.reduceAdd, Nat.reduceMul, syd, sye, syf, syg, syh, reduceCtorEq]
      have hgr : grouped size D (sortP ps) = homed size ((((adds D (copyOps 0 (sortP ps))).add .fl).add (.wr 0 (headB ((sortP ps).map (·.1))))).add .fl) (sortP ps) := by rw [grouped_eq, homed]
      exact R_out ⟨G10, by rw [hgr]; exact hlog10, hx6.trans (hx69.trans hx10)⟩
end Go.Proofs.Ytneehlkofcdhoaa

/- A deed's pages. -/
namespace Go.Proofs.Ytneehlkofcdhoaa
open Go
set_option linter.unusedSimpArgs false
open Go.RowKit (intOf)
theorem elemPg : ElemIs Try.prog 29 37 2 32 (.agg #[.int .i64 0, .slice none 0 0]) := elem_of (by kernel_rfl)
/-- Pages in memory that the call made. -/
def FreshP (B : Nat) (w : World) (v : Value) (ps : List Pg) : Prop := ∃ xs, w.ownsRow B 37 2 v ps.length xs ∧ xs.length = 2 * ps.length ∧ (∀ x ∈ xs, isCell x = true) ∧
  ∀ i (h : i < ps.length), xs[2 * i]? = some (.int .i64 ps[i].1) ∧ ∃ u, xs[2 * i + 1]? = some u ∧ w.ownsRow B 5 1 u ps[i].2.length (bs ps[i].2)
theorem FreshP.keep {S : Nat → Prop} {B : Nat} {w w' : World} {v : Value} {ps : List Pg} (h : FreshP B w v ps) (hk : Keep S w w') (hs : ∀ b, B ≤ b → ¬ S b) : FreshP B w' v ps := by
  obtain ⟨xs, h1, h2, h3, h4⟩ := h
  refine ⟨xs, own_keepk h1 hk (fun b hb => hs b (World.ownsRow.lt h1 b hb).1), h2, h3, fun i hi => ?_⟩
  obtain ⟨h5, u, h6, h7⟩ := h4 i hi
  exact ⟨h5, u, h6, own_keep h7 hk (fun b hb => hs b (World.ownsRow.lt h7 b hb).1)⟩
theorem FreshP.grow {B : Nat} {w w' : World} {v : Value} {ps : List Pg} (h : FreshP B w v ps) (hk : Grow w w') : FreshP B w' v ps := h.keep hk (fun _ _ => id)
theorem FreshP.held {G : Gh} {κ B : Nat} {w : World} {v : Value} {ps : List Pg} (h : FreshP B w v ps) (hG : ∀ b, B ≤ b → G.own b ≠ κ) : ∃ xs, PagesH G κ w v ps xs := by
  obtain ⟨xs, h1, h2, _, h4⟩ := h
  refine ⟨xs, Has.own h1, h2, fun b hb _ => ?_, fun i hi => ?_⟩
  · obtain ⟨h5, h6⟩ := World.ownsRow.lt h1 b hb
    exact ⟨h6, hG b h5⟩
  · obtain ⟨h5, u, h6, h7⟩ := h4 i hi
    exact ⟨h5, u, h6, Has.own h7, fun b hb _ => by
      obtain ⟨h8, h9⟩ := World.ownsRow.lt h7 b hb
      exact ⟨h9, hG b h8⟩⟩
theorem FreshP.heldx {B : Nat} {w : World} {v : Value} {ps : List Pg} (h : FreshP B w v ps) : ∃ xs, ∀ {G : Gh} {κ : Nat}, (∀ b, B ≤ b → G.own b ≠ κ) → PagesH G κ w v ps xs := by
  obtain ⟨xs, h1, h2, _, h4⟩ := h
  refine ⟨xs, fun hG => ⟨Has.own h1, h2, fun b hb _ => ?_, fun i hi => ?_⟩⟩
  · obtain ⟨h5, h6⟩ := World.ownsRow.lt h1 b hb
    exact ⟨h6, hG b h5⟩
  · obtain ⟨h5, u, h6, h7⟩ := h4 i hi
    exact ⟨h5, u, h6, Has.own h7, fun b hb _ => by
      obtain ⟨h8, h9⟩ := World.ownsRow.lt h7 b hb
      exact ⟨h9, hG b h8⟩⟩
/-- The cells of pages whose bytes the call made. -/
def PgCells (B : Nat) (w : World) (xs : List Value) (ps : List Pg) : Prop := xs.length = 2 * ps.length ∧ (∀ x ∈ xs, isCell x = true) ∧
  ∀ i (h : i < ps.length), xs[2 * i]? = some (.int .i64 ps[i].1) ∧ ∃ u, xs[2 * i + 1]? = some u ∧ w.ownsRow B 5 1 u ps[i].2.length (bs ps[i].2)
theorem PgCells.nil (B : Nat) (w : World) : PgCells B w [] [] := ⟨rfl, by simp, fun i hi => by simp at hi⟩
theorem PgCells.keep {S : Nat → Prop} {B : Nat} {w w' : World} {xs : List Value} {ps : List Pg} (h : PgCells B w xs ps) (hk : Keep S w w') (hs : ∀ b, S b → ∀ {B' n : Nat} {u : Value} {ys : List Value}, w.ownsRow B' 5 1 u n ys → u.ownBlock ≠ some b) : PgCells B w' xs ps := by
  obtain ⟨h2, h3, h4⟩ := h
  refine ⟨h2, h3, fun i hi => ?_⟩
  obtain ⟨h5, u, h6, h7⟩ := h4 i hi
  exact ⟨h5, u, h6, own_keep h7 hk (fun b hb hS => hs b hS h7 hb)⟩
theorem PgCells.snoc {B : Nat} {w : World} {xs : List Value} {ps : List Pg} {p : Pg} {u : Value} (h : PgCells B w xs ps) (hu : w.ownsRow B 5 1 u p.2.length (bs p.2)) : PgCells B w (xs ++ [.int .i64 p.1, u]) (ps ++ [p]) := by
  obtain ⟨h2, h3, h4⟩ := h
  refine ⟨by simp [h2]; omega, fun y hy => ?_, fun j hj => ?_⟩
  · rcases List.mem_append.1 hy with hy | hy
    · exact h3 y hy
    · simp at hy
      rcases hy with rfl | rfl
      · rfl
      · exact (Has.own hu).isCell
  · by_cases hji : j < ps.length
    · obtain ⟨h5, u', h6, h7⟩ := h4 j hji
      rw [List.getElem_append_left hji, List.getElem?_append_left (by omega), List.getElem?_append_left (by omega)]
      exact ⟨h5, u', h6, h7⟩
    · have hje : j = ps.length := by simp at hj; omega
      subst hje
      rw [List.getElem_append_right (Nat.le_refl _), List.getElem?_append_right (by omega), List.getElem?_append_right (by omega), show 2 * ps.length - xs.length = 0 from by omega, show 2 * ps.length + 1 - xs.length = 1 from by omega]
      simp only [Nat.sub_self, List.getElem_cons_zero]
      exact ⟨rfl, u, rfl, hu⟩
theorem own_basek {k B B' n : Nat} {el : TypeId} {w : World} {v : Value} {xs : List Value} (h : w.ownsRow B el k v n xs) (hB : B' ≤ B) : w.ownsRow B' el k v n xs := by
  obtain ⟨h1, h2 | ⟨g, cap, cur, rfl, h2, h3⟩⟩ := h
  · exact ⟨h1, .inl h2⟩
  · exact ⟨h1, .inr ⟨g, cap, cur, rfl, Nat.le_trans hB h2, h3⟩⟩
theorem FreshP.base {B B' : Nat} {w : World} {v : Value} {ps : List Pg} (h : FreshP B w v ps) (hB : B' ≤ B) : FreshP B' w v ps := by
  obtain ⟨xs, h1, h2, h3, h4⟩ := h
  exact ⟨xs, own_basek h1 hB, h2, h3, fun i hi => let ⟨h5, u, h6, h7⟩ := h4 i hi; ⟨h5, u, h6, own_base h7 hB⟩⟩
theorem FreshP.nil (B : Nat) (w : World) : FreshP B w (.slice none 0 0) [] := ⟨[], World.ownsRow_nil w B _ 2, rfl, by simp, fun i hi => by simp at hi⟩
structure Deed3 where
  short : Bool
  pages : List Int
  byte : UInt8
/-- A row of numbers that is only read (one without any may lie anywhere). -/
def HasX (w : World) (v : Value) (l : List Int) : Prop := HasI w v l ∨ (l = [] ∧ ∃ a, v = .slice (some a) 0 0)
theorem HasX.keep {S : Nat → Prop} {w w' : World} {v : Value} {l : List Int} (h : HasX w v l) (hk : Keep S w w') (hs : ∀ b, b < w.heap.size → ¬ S b) : HasX w' v l := by
  rcases h with h | h
  · exact .inl (h.keep hk (fun b hb hne => hs b (h.lt hne hb)))
  · exact .inr h
theorem HasX.isCell {w : World} {v : Value} {l : List Int} (h : HasX w v l) : Go.Proofs.Ytneehlkofcdhoaa.isCell v = true := by
  rcases h with h | ⟨_, a, rfl⟩
  · exact Has.isCell h
  · rfl
theorem HasX.lenI {w : World} {v : Value} {l : List Int} (h : HasX w v l) (w2 : World) : lenF w2 0 v = some (.int .i64 l.length) := by
  rcases h with h | ⟨rfl, a, rfl⟩
  · exact Has.lenI h w2
  · rfl
theorem HasX.getI {w : World} {v : Value} {l : List Int} (h : HasX w v l) {i : Nat} (hi : i < l.length) : ∃ a, iaF 1 v (.int .i64 i) = some (.pointer (some a)) ∧ w.cell? a = some (.int .i64 l[i]) ∧ v.ownBlock = some a.block := by
  rcases h with h | ⟨rfl, _⟩
  · exact Has.getI h hi
  · simp at hi
theorem HasX.grow {w w' : World} {v : Value} {l : List Int} (h : HasX w v l) (hk : Grow w w') : HasX w' v l := h.keep hk (fun _ _ => id)
/-- A deed in memory. -/
def Deed3.At (w : World) (v : Value) (x : Deed3) : Prop := ∃ u, v = .agg #[.bool x.short, u, .int .u8 (x.byte.toNat : Int)] ∧ HasX w u x.pages
theorem Deed3.At.keep {S : Nat → Prop} {w w' : World} {v : Value} {x : Deed3} (h : Deed3.At w v x) (hk : Keep S w w') (hs : ∀ b, b < w.heap.size → ¬ S b) : Deed3.At w' v x := by
  obtain ⟨u, h1, h2⟩ := h
  exact ⟨u, h1, h2.keep hk hs⟩
theorem Deed3.At.grow {w w' : World} {v : Value} {x : Deed3} (h : Deed3.At w v x) (hk : Grow w w') : Deed3.At w' v x := h.keep hk (fun _ _ => id)
def Deed3.byteAt (x : Deed3) (i : Nat) : UInt8 := x.byte + UInt8.ofNat i
def Deed3.page (x : Deed3) (i : Nat) : Pg := (x.pages.getD i 0, List.replicate (if x.short = true ∧ i = 0 then 511 else 512) (x.byteAt i))
/-- Its pages. -/
def Deed3.pgs (x : Deed3) : List Pg := (List.range (min x.pages.length 102)).map x.page
theorem Deed3.pgs_length (x : Deed3) : x.pgs.length = min x.pages.length 102 := by simp [Deed3.pgs]
theorem Has.newp {w : World} {x y : Value} {t : TypeId} : Has 2 (w.alloc (.cells #[x, y] t)) (.slice (some ⟨w.heap.size, 0, none⟩) 1 1) [x, y] := by
  refine .inl ⟨w.heap.size, 0, 1, 1, rfl, rfl, Nat.le_refl _, fun j u hj => ?_⟩
  rw [cell_block (heap_alloc_new w _)]
  match j, hj with
  | 0, hj => simpa using hj
  | 1, hj => simpa using hj
/-- An own row up to a place. -/
theorem own_slcTo {w : World} {B n m : Nat} {el : TypeId} {v : Value} {xs : List Value} (h : w.ownsRow B el 1 v n xs) (hm : m ≤ n) (hn : 0 < n) :
    ∃ v', slcF 1 v none (some (.int .i64 m)) none = some v' ∧ w.ownsRow B el 1 v' m (xs.take m) := by
  obtain ⟨h1, ⟨_, h2⟩ | ⟨g, cap, cur, rfl, h2, h3, h4, h5, h6, h7⟩⟩ := h
  · omega
  · refine ⟨.slice (some ⟨g, 0, none⟩) m cap, ?_, by simp at h1 ⊢; omega, .inr ⟨g, cap, cur, rfl, h2, h3, by omega, h5, h6, ?_⟩⟩
    · simp only [slcF, slcV, bndV]
      rw [if_pos ⟨by omega, by omega⟩]
      simp [add_lit]
    · rw [← h7, List.take_take, Nat.min_eq_left (by omega), Nat.mul_one]
theorem fillF_p {a b x y : Value} : fillF #[a, b] [(0, 2, .agg #[x, y])] = some #[x, y] := by
  rw [fillF_two (by simp), fillF_nil]; simp
theorem byteAt_val (x : Deed3) (i : Nat) : (((x.byteAt i).toNat : Nat) : Int) = ((x.byte.toNat : Int) + (i : Int) % 256) % 256 := by
  simp only [Deed3.byteAt, UInt8.toNat_add, UInt8.toNat_ofNat']
  omega
set_option maxHeartbeats 1000000 in
theorem dpages_spec {w : World} {v : Value} {x : Deed3} (h : Deed3.At w v x) :
    Calls Try.prog 13 #[v] w (Ret fun r w' => FreshP w.heap.size w' r x.pgs ∧ Grow w w') := by
  obtain ⟨pv, rfl, hpv⟩ := h
  have hpc := hpv.isCell
  have hcells := agg3_cells (x := .bool x.short) (y := pv) (z := .int .u8 (x.byte.toNat : Int)) rfl hpc rfl
  have hb0 := heap_alloc_new w (.cells #[.bool x.short, pv, .int .u8 (x.byte.toNat : Int)] 32)
  have hg0 : Grow w (w.alloc (.cells #[.bool x.short, pv, .int .u8 (x.byte.toNat : Int)] 32)) := (Keep.refl _ _).alloc _
  apply enter13
  apply R_in
  simp (maxSteps := 600000) (disch := omega) only [F13, ↓sy1, sy2, sy3, readOK, sy5, sy6, Nat.reduceEqDiff, ↓reduceIte, sy7, sy8, sy9, sya, oneOf, syb, syc, Nat.reduceAdd, Nat.reduceMul, syd, sye, syf, syg, syh, reduceCtorEq, hcells]
  generalize w.alloc (.cells #[.bool x.short, pv, .int .u8 (x.byte.toNat : Int)] 32) = w0 at hb0 hg0 ⊢
  have hB0 : w.heap.size < w0.heap.size := (Array.getElem?_eq_some_iff.1 hb0).1
  generalize hB : w.heap.size = B at hb0 hB0 ⊢
  have hlen : ∀ w', lenF w' 0 pv = some (.int .i64 x.pages.length) := fun w' => hpv.lenI w'
  have hpl := x.pgs_length
  refine loop_rule (fun e w' => ∃ i : Nat, i ≤ x.pgs.length ∧ e 4 = .int .i64 i ∧ e 1 = .pointer (some ⟨B, 0, none⟩) ∧ Grow w0 w' ∧ FreshP w0.heap.size w' (e 3) (x.pgs.take i)) (fun e _ => x.pgs.length - (intOf (e 4)).toNat)
    ⟨0, by omega, by simp [upd, updO, ev], by simp [upd, updO, ev], Keep.refl _ _, by simpa [upd, updO, ev] using FreshP.nil w0.heap.size w0⟩ ?_
  rintro e w1 ⟨i, hi, e4, e1, hg1, hf1⟩
  have hc0 : ∀ {w'}, Grow w1 w' → w'.cell? ⟨B, 0, none⟩ = some (.bool x.short) ∧ w'.cell? ⟨B, 1, none⟩ = some pv ∧ w'.cell? ⟨B, 2, none⟩ = some (.int .u8 (x.byte.toNat : Int)) := fun hg => by
    have h1 := (hg1.trans hg).gheap hb0
    exact ⟨by rw [cell_block h1]; rfl, by rw [cell_block h1]; rfl, by rw [cell_block h1]; rfl⟩
  by_cases hlt : i < x.pgs.length
  · simp (maxSteps := 600000) (disch := omega) only [F13_L1, ↓sy1, sy2, sy3, readOK, sy5, sy6, Nat.reduceEqDiff, ↓reduceIte, sy7, sy8, sy9, sya, oneOf, syb, syc, Nat.reduceAdd, Nat.reduceMul, syd, sye, syf, syg, syh, reduceCtorEq, e4, e1, hc0 (Keep.refl _ _), hlen, Int.ofNat_lt, show i < x.pages.length from by omega, show ((i : Int) < 102) from by omega, decide_true]
    refine mk_rule elemB (kx := .i64) (ky := .i64) (a := 512) (c := 512) (by simp only [upd_at, Nat.reduceEqDiff, reduceIte, ev_tmp, ev_const, List.map_cons, List.map_nil]) (by simp only [upd_at, Nat.reduceEqDiff, reduceIte, ev_tmp, ev_const, List.map_cons, List.map_nil]) (by omega) (by omega) (by omega) (by omega) rfl ?_
    have hg2 : Grow w1 (w1.alloc (.cells (Array.replicate (512 : Int).toNat (.int .u8 0)) 5)) := (Keep.refl _ _).alloc _
    have ho2 := own_made w1 w1.heap.size (Nat.le_refl _) 5 (512 : Int).toNat (by decide) (.int .u8 0)
    generalize w1.alloc (.cells (Array.replicate (512 : Int).toNat (.int .u8 0)) 5) = w2 at hg2 ho2 ⊢
    rw [show (512 : Int).toNat = 512 from rfl] at ho2 ⊢
    generalize (Value.slice (some ⟨w1.heap.size, 0, none⟩) 512 512) = bv at ho2 ⊢
    simp (maxSteps := 600000) (disch := omega) only [↓sy1, sy2, sy3, readOK, sy5, sy6, Nat.reduceEqDiff, ↓reduceIte, sy7, sy8, sy9, sya, oneOf, syb, syc, Nat.reduceAdd, Nat.reduceMul, syd, sye, syf, syg, syh, reduceCtorEq, e4, e1]
    generalize hout : e 3 = out at hf1
    refine loop_rule (fun e w' => ∃ k : Nat, k ≤ 512 ∧ e 6 = .int .i64 k ∧ e 5 = bv ∧ e 4 = .int .i64 i ∧ e 1 = .pointer (some ⟨B, 0, none⟩) ∧ e 3 = out ∧ Grow w1 w' ∧
        w'.ownsRow w1.heap.size 5 1 bv 512 (List.replicate k (.int .u8 ((x.byteAt i).toNat : Int)) ++ List.replicate (512 - k) (.int .u8 0))) (fun e _ => 512 - (intOf (e 6)).toNat)
      ⟨0, by omega, by simp [upd, updO, ev], by simp [upd, updO, ev], by simp [upd, updO, ev, e4], by simp [upd, updO, ev, e1], by simp [upd, updO, ev, hout], hg2, ho2⟩ ?_
    rintro e w3 ⟨k, hk, e6, e5, e4, e1, e3, hg3, ho3⟩
    have hl5 : ∀ w', lenF w' 0 bv = some (.int .i64 512) := fun w' => by
      rw [Has.len (Has.own ho3), List.length_append, List.length_replicate, List.length_replicate, show k + (512 - k) = 512 from by omega]; rfl
    by_cases hk5 : k < 512
    · obtain ⟨a, w4, ha, hst, ho4, hk4, hbk⟩ := own_store ho3 hk5 (u := .int .u8 ((x.byteAt i).toNat : Int)) rfl
      rw [byteAt_val x i] at hst
      simp (maxSteps := 600000) (disch := omega) only [F13_L0, ↓sy1, sy2, sy3, readOK, sy5, sy6, Nat.reduceEqDiff, ↓reduceIte, sy7, sy8, sy9, sya, oneOf, syb, syc, Nat.reduceAdd, Nat.reduceMul, syd, sye, syf, syg, syh, reduceCtorEq, e6, e5, e4, e1, e3, hl5, show ((k : Int) < 512) from by omega, decide_true, hc0 hg3, ha, hst]
      have hgw : Grow w1 w4 := hg3.then hk4 (fun b hb h => by have := (World.ownsRow.lt ho3 b h).1; omega)
      refine R_out ⟨⟨k + 1, by omega, rfl, hgw, ?_⟩, by simp only [intOf]; omega⟩
      have : (List.replicate k (Value.int .u8 ((x.byteAt i).toNat : Int)) ++ List.replicate (512 - k) (Value.int .u8 0)).set k (Value.int .u8 ((x.byteAt i).toNat : Int)) = List.replicate (k + 1) (Value.int .u8 ((x.byteAt i).toNat : Int)) ++ List.replicate (512 - (k + 1)) (Value.int .u8 0) := by
        rw [List.set_append_right _ _ (by simp), List.length_replicate, Nat.sub_self, show 512 - k = (512 - (k + 1)) + 1 from by omega, List.replicate_succ, List.replicate_succ']
        simp
      rw [this] at ho4; exact ho4
    · have hke : k = 512 := by omega
      subst hke
      have hbs : List.replicate 512 (Value.int .u8 ((x.byteAt i).toNat : Int)) ++ List.replicate (512 - 512) (Value.int .u8 0) = bs (List.replicate 512 (x.byteAt i)) := by rw [Nat.sub_self, List.replicate_zero, List.append_nil, bs, List.map_replicate]
      rw [hbs] at ho3
      have hf3 := hf1.grow hg3
      obtain ⟨xs, h1, h2, h3, h4⟩ := hf3
      have hci : x.pages.getD i 0 = x.pages[i]'(by omega) := by simp [List.getD_eq_getElem?_getD, List.getElem?_eq_getElem (show i < x.pages.length by omega)]
      obtain ⟨a, ha, hac, _⟩ := (hpv.grow (hg0.trans (hg1.trans hg3))).getI (i := i) (by omega)
      rw [← hci] at hac
      have hpgi : x.pgs[i]'hlt = x.page i := by simp [Deed3.pgs]
      have htk : x.pgs.take (i + 1) = x.pgs.take i ++ [x.page i] := by rw [List.take_succ_eq_append_getElem hlt, hpgi]
      obtain ⟨u, hu, hcase⟩ : ∃ u, w3.ownsRow w1.heap.size 5 1 u (x.page i).2.length (bs (x.page i).2) ∧ ((x.short = true ∧ i = 0 ∧ slcF 1 bv none (some (.int .i64 511)) none = some u) ∨ (x.short = true ∧ ¬ ((i : Int) = 0) ∧ bv = u) ∨ (x.short = false ∧ bv = u)) := by
        by_cases hs : x.short = true ∧ i = 0
        · obtain ⟨u, hsl, hu⟩ := own_slcTo ho3 (m := 511) (by omega) (by omega)
          refine ⟨u, ?_, .inl ⟨hs.1, hs.2, hsl⟩⟩
          have h5 : (x.page i).2 = List.replicate 511 (x.byteAt i) := by simp only [Deed3.page]; rw [if_pos hs]
          rw [h5, List.length_replicate]
          have h6 : (bs (List.replicate 512 (x.byteAt i))).take 511 = bs (List.replicate 511 (x.byteAt i)) := by
            rw [bs, bs, ← List.map_take, List.take_replicate]; rfl
          rw [← h6]; exact hu
        · refine ⟨bv, ?_, by
            by_cases hsh : x.short = true
            · exact .inr (.inl ⟨hsh, fun hc => hs ⟨hsh, by omega⟩, rfl⟩)
            · exact .inr (.inr ⟨by simpa using hsh, rfl⟩)⟩
          have h5 : (x.page i).2 = List.replicate 512 (x.byteAt i) := by simp only [Deed3.page]; rw [if_neg hs]
          rw [h5, List.length_replicate]; exact ho3
      have huc := (Has.own hu).isCell
      have htl : (x.pgs.take i).length = i := by rw [List.length_take]; omega
      have h01 := hg1.size
      have h01' : w0.heap.size ≤ w1.heap.size := h01
      rw [htl] at h1
      have hgap : Grow w3 (w3.alloc (.cells #[.int .i64 (x.pages.getD i 0), u] 37)) := (Keep.refl _ _).alloc _
      have hnsz := hg3.size
      have hnil : ¬ (((512 : Nat) : Int) < 512) := by omega
      have fin : ∀ (out' : Value) (w5 : World), w5.ownsRow w0.heap.size 37 2 out' (i + 1) (xs ++ [.int .i64 (x.pages.getD i 0), u]) → (w3.alloc (.cells #[.int .i64 (x.pages.getD i 0), u] 37)).grownBy w5 out.ownBlock →
          ∃ j : Nat, j ≤ x.pgs.length ∧ (Value.int .i64 ((i : Int) + 1)) = .int .i64 j ∧ Grow w0 w5 ∧ FreshP w0.heap.size w5 out' (x.pgs.take j) := by
        intro out' w5 ho5 hg5
        have hk5 : Keep (fun b => some b = out.ownBlock) w3 w5 := (Keep.grow hgap).trans (Keep.grown hg5)
        have hne : ∀ {B' n : Nat} {u' : Value} {ys : List Value}, w3.ownsRow B' 5 1 u' n ys → ∀ b, u'.ownBlock = some b → ¬ (some b = out.ownBlock) := fun {B' n u' ys} hu' b hb hc => own_ne hu' h1 (by decide) hb hc.symm
        have hgw : Grow w0 w5 := (hg1.trans hg3).then hk5 (fun b hb hc => by have := (World.ownsRow.lt h1 b hc.symm).1; omega)
        refine ⟨i + 1, by omega, rfl, hgw, xs ++ [.int .i64 (x.pages.getD i 0), u], ?_, ?_, ?_, fun j hj => ?_⟩
        · rw [htk, List.length_append, htl]; exact ho5
        · rw [htk, List.length_append, List.length_append, h2, htl]; simp; omega
        · intro y hy
          rcases List.mem_append.1 hy with hy | hy
          · exact h3 y hy
          · simp at hy
            rcases hy with rfl | rfl
            · rfl
            · exact huc
        · have hjl : j < i + 1 := by rw [htk, List.length_append, htl] at hj; simpa using hj
          have hxl : xs.length = 2 * i := by rw [h2, htl]
          by_cases hji : j < i
          · obtain ⟨h5, u', h6, h7⟩ := h4 j (by rw [htl]; exact hji)
            have hg1 : (x.pgs.take (i + 1))[j] = (x.pgs.take i)[j]'(by rw [htl]; exact hji) := by simp
            rw [hg1, List.getElem?_append_left (by omega), List.getElem?_append_left (by omega)]
            exact ⟨h5, u', h6, own_keep h7 hk5 (hne h7)⟩
          · have hje : j = i := by omega
            subst hje
            have hg1 : (x.pgs.take (j + 1))[j] = x.page j := by simp [Deed3.pgs]
            rw [hg1, List.getElem?_append_right (by omega), List.getElem?_append_right (by omega), show 2 * j - xs.length = 0 from by omega, show 2 * j + 1 - xs.length = 1 from by omega]
            exact ⟨rfl, u, rfl, own_keep (own_base hu (by assumption)) hk5 (hne hu)⟩
      rcases hcase with ⟨hs, hi0, hsl⟩ | ⟨hs, hi0, rfl⟩ | ⟨hs, rfl⟩
      · simp (maxSteps := 600000) (disch := omega) only [F13_L0, ↓sy1, sy2, sy3, readOK, sy5, sy6, Nat.reduceEqDiff, ↓reduceIte, sy7, sy8, sy9, sya, oneOf, syb, syc, Nat.reduceAdd, Nat.reduceMul, syd, sye, syf, syg, syh, reduceCtorEq, e6, e5, e4, e1, e3, hl5, hnil, decide_true, decide_false, hc0 hg3, hs, show ((i : Int) = 0) = True from by simp [hi0], hsl, ha, hac, fill_gen, fillF_2 (a := .int .i64 0) (b := .slice none 0 0) (u := .int .i64 (x.pages.getD i 0)) rfl huc, fill_of2, fillF_p (a := .int .i64 0) (b := .slice none 0 0)]
        refine app_own elemPg (by simp only [upd_at, Nat.reduceEqDiff, reduceIte, ev_tmp, ev_const, List.map_cons, List.map_nil, e3]) (by simp only [upd_at, Nat.reduceEqDiff, reduceIte, ev_tmp, ev_const, List.map_cons, List.map_nil]) (own_keepk h1 hgap (fun _ _ => id)) Has.newp (m := 1) rfl (by simpa [isCell] using huc) (by omega) (by omega) (by have := hgap.size; omega) ?_
        intro out' w5 ho5 hg5
        simp (maxSteps := 600000) (disch := omega) only [↓sy1, sy2, sy3, readOK, sy5, sy6, Nat.reduceEqDiff, ↓reduceIte, sy7, sy8, sy9, sya, oneOf, syb, syc, Nat.reduceAdd, Nat.reduceMul, syd, sye, syf, syg, syh, reduceCtorEq, e6, e5, e4, e1, e3]
        refine R_out ⟨?_, ?_⟩
        · exact fin out' w5 ho5 hg5
        · simp only [intOf]; omega
      · simp (maxSteps := 600000) (disch := omega) only [F13_L0, ↓sy1, sy2, sy3, readOK, sy5, sy6, Nat.reduceEqDiff, ↓reduceIte, sy7, sy8, sy9, sya, oneOf, syb, syc, Nat.reduceAdd, Nat.reduceMul, syd, sye, syf, syg, syh, reduceCtorEq, e6, e5, e4, e1, e3, hl5, hnil, decide_true, decide_false, hc0 hg3, hs, hi0, ha, hac, fill_gen, fillF_2 (a := .int .i64 0) (b := .slice none 0 0) (u := .int .i64 (x.pages.getD i 0)) rfl huc, fill_of2, fillF_p (a := .int .i64 0) (b := .slice none 0 0)]
        refine app_own elemPg (by simp only [upd_at, Nat.reduceEqDiff, reduceIte, ev_tmp, ev_const, List.map_cons, List.map_nil, e3]) (by simp only [upd_at, Nat.reduceEqDiff, reduceIte, ev_tmp, ev_const, List.map_cons, List.map_nil]) (own_keepk h1 hgap (fun _ _ => id)) Has.newp (m := 1) rfl (by simpa [isCell] using huc) (by omega) (by omega) (by have := hgap.size; omega) ?_
        intro out' w5 ho5 hg5
        simp (maxSteps := 600000) (disch := omega) only [↓sy1, sy2, sy3, readOK, sy5, sy6, Nat.reduceEqDiff, ↓reduceIte, sy7, sy8, sy9, sya, oneOf, syb, syc, Nat.reduceAdd, Nat.reduceMul, syd, sye, syf, syg, syh, reduceCtorEq, e6, e5, e4, e1, e3]
        refine R_out ⟨?_, ?_⟩
        · exact fin out' w5 ho5 hg5
        · simp only [intOf]; omega
      · simp (maxSteps := 600000) (disch := omega) only [F13_L0, ↓sy1, sy2, sy3, readOK, sy5, sy6, Nat.reduceEqDiff, ↓reduceIte, sy7, sy8, sy9, sya, oneOf, syb, syc, Nat.reduceAdd, Nat.reduceMul, syd, sye, syf, syg, syh, reduceCtorEq, e6, e5, e4, e1, e3, hl5, hnil, decide_true, decide_false, hc0 hg3, hs, ha, hac, fill_gen, fillF_2 (a := .int .i64 0) (b := .slice none 0 0) (u := .int .i64 (x.pages.getD i 0)) rfl huc, fill_of2, fillF_p (a := .int .i64 0) (b := .slice none 0 0)]
        refine app_own elemPg (by simp only [upd_at, Nat.reduceEqDiff, reduceIte, ev_tmp, ev_const, List.map_cons, List.map_nil, e3]) (by simp only [upd_at, Nat.reduceEqDiff, reduceIte, ev_tmp, ev_const, List.map_cons, List.map_nil]) (own_keepk h1 hgap (fun _ _ => id)) Has.newp (m := 1) rfl (by simpa [isCell] using huc) (by omega) (by omega) (by have := hgap.size; omega) ?_
        intro out' w5 ho5 hg5
        simp (maxSteps := 600000) (disch := omega) only [↓sy1, sy2, sy3, readOK, sy5, sy6, Nat.reduceEqDiff, ↓reduceIte, sy7, sy8, sy9, sya, oneOf, syb, syc, Nat.reduceAdd, Nat.reduceMul, syd, sye, syf, syg, syh, reduceCtorEq, e6, e5, e4, e1, e3]
        refine R_out ⟨?_, ?_⟩
        · exact fin out' w5 ho5 hg5
        · simp only [intOf]; omega
  · have hie : i = x.pgs.length := by omega
    rw [hie, List.take_length] at hf1
    by_cases h1 : i < x.pages.length
    · simp (maxSteps := 600000) (disch := omega) only [F13_L1, ↓sy1, sy2, sy3, readOK, sy5, sy6, Nat.reduceEqDiff, ↓reduceIte, sy7, sy8, sy9, sya, oneOf, syb, syc, Nat.reduceAdd, Nat.reduceMul, syd, sye, syf, syg, syh, reduceCtorEq, e4, e1, hc0 (Keep.refl _ _), hlen, Int.ofNat_lt, h1, show ¬ ((i : Int) < 102) from by omega, decide_true, decide_false]
      exact R_out ⟨hf1.base (by omega), hg0.trans hg1⟩
    · simp (maxSteps := 600000) (disch := omega) only [F13_L1, ↓sy1, sy2, sy3, readOK, sy5, sy6, Nat.reduceEqDiff, ↓reduceIte, sy7, sy8, sy9, sya, oneOf, syb, syc, Nat.reduceAdd, Nat.reduceMul, syd, sye, syf, syg, syh, reduceCtorEq, e4, e1, hc0 (Keep.refl _ _), hlen, Int.ofNat_lt, h1, decide_true, decide_false, false_implies]
      exact R_out ⟨hf1.base (by omega), hg0.trans hg1⟩
end Go.Proofs.Ytneehlkofcdhoaa

/- What must be whatever is asked (logs). -/
namespace Go.Proofs.Ytneehlkofcdhoaa
open Go
set_option linter.unusedSimpArgs false
open Go.RowKit (intOf)
theorem zero_image {n i : Nat} (h : i < n) : (Dsk.zero n).image[i]? = some zsec := by
  have h1 : (Dsk.zero n).image = (Dsk.zero n).first := by
    have := (Dsk.zero n).cut_zero
    rwa [show (Dsk.zero n).cut 0 = Dsk.zero n from rfl] at this
  rw [h1, show (Dsk.zero n).first = List.replicate n zsec from rfl, List.getElem?_replicate, if_pos h]
theorem zero_len (n : Nat) : (Dsk.zero n).first.length = n := List.length_replicate
def live3 : Deed3 := ⟨false, [2, 0], 5⟩
theorem live3_pgs : live3.pgs = [(2, List.replicate 512 5), (0, List.replicate 512 6)] := by
  have h : live3.pgs = [live3.page 0, live3.page 1] := rfl
  have h0 : live3.byteAt 0 = 5 := by decide
  have h1 : live3.byteAt 1 = 6 := by decide
  have e0 : live3.page 0 = (2, List.replicate 512 5) := by unfold Deed3.page; rw [if_neg (by simp [live3]), h0]; rfl
  have e1 : live3.page 1 = (0, List.replicate 512 6) := by unfold Deed3.page; rw [if_neg (by simp [live3]), h1]; rfl
  rw [h, e0, e1]
theorem live3_good : goodP live3.pgs := by
  rw [live3_pgs]
  refine ⟨by decide, fun p hp => ?_⟩
  simp only [List.mem_cons, List.not_mem_nil, or_false] at hp
  rcases hp with rfl | rfl <;> exact List.length_replicate
theorem live3_in : ¬ anyOut 4 live3.pgs := by
  rw [live3_pgs]
  rintro ⟨p, hp, ho⟩
  simp only [List.mem_cons, List.not_mem_nil, or_false] at hp
  rcases hp with rfl | rfl <;> simp [outOf] at ho
theorem live3_code : ccode 8 3 live3.pgs = 0 := by
  have h1 : live3.pgs ≠ [] := by rw [live3_pgs]; exact List.cons_ne_nil _ _
  have h2 : live3.pgs.length = 2 := by rw [live3_pgs]; rfl
  have h3 : ¬ (min 3 100 < live3.pgs.length) := by rw [h2]; decide
  simp only [ccode, if_neg h1, if_neg h3, show 8 - 3 - 1 = 4 from rfl, if_neg live3_in, if_pos live3_good]
theorem live3_done : cdone 3 (Dsk.zero 8) live3.pgs = grouped 3 (Dsk.zero 8) (sortP live3.pgs) := by
  have h1 : live3.pgs ≠ [] := by rw [live3_pgs]; exact List.cons_ne_nil _ _
  have hf : (Dsk.zero 8).first.length = 8 := zero_len 8
  simp only [cdone, hf]
  rw [if_pos ⟨h1, live3_code⟩]
theorem live3_page : (cdone 3 (Dsk.zero 8) live3.pgs).image[3 + 1 + 0]? = some (List.replicate 512 6) := by
  have h0 : ∀ p ∈ live3.pgs, 0 ≤ p.1 := anyOut_nonneg live3_in
  have hm : ((0 : Nat), List.replicate 512 (6 : UInt8)) ∈ sortP live3.pgs := (sortP_mem h0).2 (by rw [live3_pgs]; exact List.mem_cons_of_mem _ (List.mem_cons_self ..))
  rw [live3_done]
  exact grouped_page (size := 3) (nodup_lt (sortP_rising live3_good.1 h0)) (fun p hp => by have := sortP_lt (pages := 4) h0 live3_in p hp; rw [zero_len]; omega) hm
theorem live3_ops : (cdone 3 (Dsk.zero 8) live3.pgs).ops.length = 10 := by
  rw [live3_done, grouped_ops, sortP_length, live3_pgs]; rfl
set_option maxHeartbeats 1000000 in
theorem live3_spec (w : World) : Calls Try.prog 12 #[] w (Ret fun v w' => v = .bool true ∧ Grow w w') := by
  apply enter12
  apply R_in
  simp (maxSteps := 600000) (disch := omega) only [F12, ↓sy1, sy2, sy3, readOK, sy5, sy6, Nat.reduceEqDiff, ↓reduceIte, sy7, sy8, sy9, sya, oneOf, syb, syc, Nat.reduceAdd, Nat.reduceMul, syd, sye, syf, syg, syh, reduceCtorEq]
  refine call0 (new_spec G00 1 (n := 8) (by omega) (by omega)) ?_
  rintro _ w1 ⟨p, G1, rfl, hp1, hd1, hx1⟩
  simp (maxSteps := 600000) (disch := omega) only [↓sy1, sy2, sy3, readOK, sy5, sy6, Nat.reduceEqDiff, ↓reduceIte, sy7, sy8, sy9, sya, oneOf, syb, syc, Nat.reduceAdd, Nat.reduceMul, syd, sye, syf, syg, syh, reduceCtorEq]
  refine call0 (open_spec (size := 3) 2 (by omega) hd1 (by omega) (by rw [zero_len]; omega) (.inl (zero_image (by omega)))) ?_
  rintro _ w2 ⟨q, G2, rfl, hq2, hl2, hx2⟩
  simp (maxSteps := 600000) (disch := omega) only [↓sy1, sy2, sy3, readOK, sy5, sy6, Nat.reduceEqDiff, ↓reduceIte, sy7, sy8, sy9, sya, oneOf, syb, syc, Nat.reduceAdd, Nat.reduceMul, syd, sye, syf, syg, syh, reduceCtorEq, fill_gen, fillF_2 (a := .int .i64 0) (b := .int .i64 0) (u := .int .i64 2) (v := .int .i64 0) rfl rfl, fillF_2of3 (a := .bool false) (b := .slice none 0 0) (c := .int .u8 0) (x := .slice (some ⟨w2.heap.size, 0, none⟩) 2 2) (y := .int .u8 5) rfl rfl]
  have hga : Grow w2 (w2.alloc (.cells #[.int .i64 2, .int .i64 0] 3)) := (Keep.refl _ _).alloc _
  have hia : HasI (w2.alloc (.cells #[.int .i64 2, .int .i64 0] 3)) (.slice (some ⟨w2.heap.size, 0, none⟩) 2 2) [2, 0] := Has.new2
  generalize w2.alloc (.cells #[.int .i64 2, .int .i64 0] 3) = w3 at hga hia ⊢
  refine call0 (dpages_spec (x := live3) ⟨_, rfl, .inl hia⟩) ?_
  rintro pv w4 ⟨hpv, hg4⟩
  have hx4 : Ext0 G2 w2 (G2.new w2.heap.size) w4 := .newB (hga.trans hg4)
  have hl4 := hl2.ext hx4 id id
  obtain ⟨xs, hps⟩ := hpv.held (G := G2.new w2.heap.size) (κ := 2) (fun b hb => by rw [Gh.new_own (Nat.le_trans hga.size hb)]; omega)
  simp (maxSteps := 600000) (disch := omega) only [↓sy1, sy2, sy3, readOK, sy5, sy6, Nat.reduceEqDiff, ↓reduceIte, sy7, sy8, sy9, sya, oneOf, syb, syc, Nat.reduceAdd, Nat.reduceMul, syd, sye, syf, syg, syh, reduceCtorEq]
  refine call0 (commit_spec hl4 hps (by rw [live3_pgs]; decide) (by show 0 < 700000; omega)) ?_
  rintro _ w5 ⟨rfl, G5, hl5, hx5⟩
  have hf : (Dsk.zero 8).first.length = 8 := zero_len 8
  have hff : (cdone 3 (Dsk.zero 8) live3.pgs).first.length = 8 := by rw [cdone_first, hf]
  rw [hf, live3_code]
  simp (maxSteps := 600000) (disch := omega) only [↓sy1, sy2, sy3, readOK, sy5, sy6, Nat.reduceEqDiff, ↓reduceIte, sy7, sy8, sy9, sya, oneOf, syb, syc, Nat.reduceAdd, Nat.reduceMul, syd, sye, syf, syg, syh, reduceCtorEq]
  refine call0 (lread_spec (n := 0) hl5 (by omega)) ?_
  rintro _ w6 ⟨u, rfl, hu, hg6⟩
  have hpage := live3_page
  have hpg : (cdone 3 (Dsk.zero 8) live3.pgs).image[3 + 1 + 0]'(by rw [Dsk.image_length, hff]; omega) = List.replicate 512 6 := by
    rw [List.getElem?_eq_getElem (by rw [Dsk.image_length, hff]; omega)] at hpage; exact Option.some.inj hpage
  rw [hpg] at hu
  have hul : ∀ w', lenF w' 0 u = some (.int .i64 512) := fun w' => by rw [Has.lenB (Has.own hu), List.length_replicate]; rfl
  obtain ⟨a, ha, hac, _⟩ := Has.getB (Has.own hu) (i := 0) (by rw [List.length_replicate]; omega)
  have hz : (List.replicate 512 (6 : UInt8))[0]'(by rw [List.length_replicate]; omega) = 6 := List.getElem_replicate ..
  rw [hz] at hac
  have ha' : iaF 1 u (.int .i64 0) = some (.pointer (some a)) := ha
  simp (maxSteps := 600000) (disch := omega) only [↓sy1, sy2, sy3, readOK, sy5, sy6, Nat.reduceEqDiff, ↓reduceIte, sy7, sy8, sy9, sya, oneOf, syb, syc, Nat.reduceAdd, Nat.reduceMul, syd, sye, syf, syg, syh, reduceCtorEq]
  refine call0 (capacity_spec (hl5.grow hg6)) ?_
  rintro _ w7 ⟨rfl, rfl⟩
  simp (maxSteps := 600000) (disch := omega) only [↓sy1, sy2, sy3, readOK, sy5, sy6, Nat.reduceEqDiff, ↓reduceIte, sy7, sy8, sy9, sya, oneOf, syb, syc, Nat.reduceAdd, Nat.reduceMul, syd, sye, syf, syg, syh, reduceCtorEq, show (((min 3 100 : Nat) : Int) = 3) = True from by decide, decide_true]
  refine call0 (pages_spec (hl5.grow hg6)) ?_
  rintro _ w7 ⟨rfl, hg7⟩
  rw [hff]
  simp (maxSteps := 600000) (disch := omega) only [↓sy1, sy2, sy3, readOK, sy5, sy6, Nat.reduceEqDiff, ↓reduceIte, sy7, sy8, sy9, sya, oneOf, syb, syc, Nat.reduceAdd, Nat.reduceMul, syd, sye, syf, syg, syh, reduceCtorEq, show (((8 - 3 - 1 : Nat) : Int) = 4) = True from by decide, decide_true, hul, ha', hg7.gcell hac, show (((6 : UInt8).toNat : Int) = 6) = True from by decide]
  refine call0 (ldisk_spec 3 ((hl5.grow hg6).grow hg7)) ?_
  rintro _ w8 ⟨p8, G8, rfl, _, hd8, hx8⟩
  simp (maxSteps := 600000) (disch := omega) only [↓sy1, sy2, sy3, readOK, sy5, sy6, Nat.reduceEqDiff, ↓reduceIte, sy7, sy8, sy9, sya, oneOf, syb, syc, Nat.reduceAdd, Nat.reduceMul, syd, sye, syf, syg, syh, reduceCtorEq]
  refine call0 (ops_spec hd8) ?_
  rintro _ w9 ⟨rfl, rfl⟩
  rw [live3_ops]
  simp (maxSteps := 600000) (disch := omega) only [↓sy1, sy2, sy3, readOK, sy5, sy6, Nat.reduceEqDiff, ↓reduceIte, sy7, sy8, sy9, sya, oneOf, syb, syc, Nat.reduceAdd, Nat.reduceMul, syd, sye, syf, syg, syh, reduceCtorEq, show (((10 : Nat) : Int) = 10) = True from by decide, decide_true]
  have hxa : Ext (fun c => c = 2) G00 w G8 _ := (((((hx1.trans hx2).trans hx4).mono (fun _ h => h.elim)).trans hx5).trans ((Ext.grow (hg6.trans hg7)))).trans (hx8.mono (fun _ h => h.elim))
  exact R_out (hxa.toGrow (by omega))
end Go.Proofs.Ytneehlkofcdhoaa

/- The reference's log: a fork of its disk, what it tells, open over an empty disk. -/
namespace Go.Proofs.Ytneehlkofcdhoaa
open Go
set_option linter.unusedSimpArgs false
open Go.RowKit (intOf)
theorem rfork_nil {w : World} : Calls Try.prog 67 #[.pointer none] w (Ret fun v w' => v = .pointer none ∧ w' = w) := by
  apply enter67
  apply R_in
  simp (maxSteps := 600000) (disch := omega) only [F67, ↓sy1, sy2, sy3, readOK, sy5, sy6, Nat.reduceEqDiff, ↓reduceIte, sy7, sy8, sy9, sya, oneOf, syb, syc, Nat.reduceAdd, Nat.reduceMul, syd, sye, syf, syg, syh, reduceCtorEq]
  exact R_out trivial
theorem rfork_spec {G : Gh} {κ : Nat} {w : World} {p : Nat} {D : Dsk} (κ' : Nat) (h : RefAt G κ w p D) :
    Calls Try.prog 67 #[.pointer (some ⟨p, 0, none⟩)] w (Ret fun v w' => ∃ q G', v = .pointer (some ⟨q, 0, none⟩) ∧ w.heap.size ≤ q ∧ RefAt G' κ' w' q D ∧ Ext0 G w G' w') := by
  obtain ⟨hok, hl, vf, vl, xs, hp, hown, hf, h1, h2, h3⟩ := h
  have hcf := h1.has.choose_spec.1.isCell
  have hcl := h2.1.isCell
  apply enter67
  apply R_in
  simp (maxSteps := 600000) (disch := omega) only [F67, ↓sy1, sy2, sy3, readOK, sy5, sy6, Nat.reduceEqDiff, ↓reduceIte, sy7, sy8, sy9, sya, oneOf, syb, syc, Nat.reduceAdd, Nat.reduceMul, syd, sye, syf, syg, syh, reduceCtorEq]
  refine draw67_0 (fun _ => False) ?_
  have hgd : Grow w w.drew := (Keep.refl _ _).drew
  generalize w.drew = w1 at hgd ⊢
  have hp1 := hgd.gheap hp
  have hc0 : w1.cell? ⟨p, 0, none⟩ = some vf := by rw [cell_block hp1]; rfl
  have hc1 : w1.cell? ⟨p, 1, none⟩ = some vl := by rw [cell_block hp1]; rfl
  simp (maxSteps := 600000) (disch := omega) only [PL67_0, ↓sy1, sy2, sy3, readOK, sy5, sy6, Nat.reduceEqDiff, ↓reduceIte, sy7, sy8, sy9, sya, oneOf, syb, syc, Nat.reduceAdd, Nat.reduceMul, syd, sye, syf, syg, syh, reduceCtorEq, hc0, hc1, fill_gen, fillF_2 (a := .slice none 0 0) (b := .slice none 0 0) hcf hcl, agg2_cells hcf hcl]
  have hg2 : Grow w1 (w1.alloc (.cells #[vf, vl] 106)) := (Keep.refl _ _).alloc _
  have hb2 := heap_alloc_new w1 (.cells #[vf, vl] 106)
  generalize w1.alloc (.cells #[vf, vl] 106) = w2 at hg2 hb2 ⊢
  have hgw := hgd.trans hg2
  have hx : Ext0 G w (G.upto w.heap.size (fun _ => κ') (fun _ => 0)) w2 := .upto hgw _ _
  have hsz := hgd.size
  refine R_out ⟨_, G.upto w.heap.size (fun _ => κ') (fun _ => 0), rfl, hsz, ⟨hok, hl, vf, vl, xs, hb2, by simp [Gh.upto, Nat.not_lt.2 hsz], by simp [Gh.upto, Nat.not_lt.2 hsz], h1.ext hx, h2.ext hx, h3.ext hx⟩, hx⟩
/-- The reference's log at block q, over a disk of owner κ. -/
def RLogAt (G : Gh) (κ : Nat) (w : World) (q : Nat) (size came : Nat) (D : Dsk) : Prop :=
  κ ≠ 0 ∧ 1 ≤ size ∧ size + 2 ≤ D.first.length ∧ G.own q = 0 ∧ ∃ p, w.heap[q]? = some (.cells #[.pointer (some ⟨p, 0, none⟩), .int .i64 size, .int .i64 came] 98 (0, 0)) ∧ RefAt G κ w p D
theorem RLogAt.ext {K : Nat → Prop} {G G' : Gh} {κ : Nat} {w w' : World} {q size came : Nat} {D : Dsk} (h : RLogAt G κ w q size came D) (hx : Ext K G w G' w') (hk : ¬ K κ) (h0 : ¬ K 0) : RLogAt G' κ w' q size came D := by
  obtain ⟨h1, h2, h3, h4, p, h5, h6⟩ := h
  exact ⟨h1, h2, h3, by rw [hx.own q (hx.lt h5)]; exact h4, p, hx.heap h5 (by rw [h4]; exact h0), h6.ext hx hk⟩
theorem RLogAt.grow {G : Gh} {κ : Nat} {w w' : World} {q size came : Nat} {D : Dsk} (h : RLogAt G κ w q size came D) (hg : Grow w w') : RLogAt G κ w' q size came D := h.ext (K := fun _ => False) (.grow hg) id id
theorem RLogAt.put {G G' : Gh} {κ : Nat} {w w' : World} {q size came p : Nat} {D E : Dsk} (h : RLogAt G κ w q size came D) (hp : w.cell? ⟨q, 0, none⟩ = some (.pointer (some ⟨p, 0, none⟩))) (hx : Ext (fun c => c = κ) G w G' w') (hE : E.first = D.first) (hd : RefAt G' κ w' p E) : RLogAt G' κ w' q size came E := by
  obtain ⟨h1, h2, h3, h4, p', h5, h6⟩ := h
  have : w.cell? ⟨q, 0, none⟩ = some (.pointer (some ⟨p', 0, none⟩)) := by rw [cell_block h5]; rfl
  rw [this] at hp; cases hp
  exact ⟨h1, h2, by rw [hE]; exact h3, by rw [hx.own q (hx.lt h5)]; exact h4, p, hx.heap h5 (by rw [h4]; exact fun h => h1 h.symm), hd⟩
theorem RLogAt.cells {G : Gh} {κ : Nat} {w : World} {q size came : Nat} {D : Dsk} (h : RLogAt G κ w q size came D) :
    ∃ p, RefAt G κ w p D ∧ ∀ {w'}, Grow w w' → w'.cell? ⟨q, 0, none⟩ = some (.pointer (some ⟨p, 0, none⟩)) ∧ w'.cell? ⟨q, 1, none⟩ = some (.int .i64 size) ∧ w'.cell? ⟨q, 2, none⟩ = some (.int .i64 came) := by
  obtain ⟨hκ, hs1, hs2, ho0, p, hq, hd⟩ := h
  exact ⟨p, hd, fun hg => ⟨by rw [cell_block (hg.gheap hq)]; rfl, by rw [cell_block (hg.gheap hq)]; rfl, by rw [cell_block (hg.gheap hq)]; rfl⟩⟩
theorem rhead0_spec {w : World} {q p size came : Nat} {D : Dsk} {G : Gh} {κ : Nat} (hq : w.heap[q]? = some (.cells #[.pointer (some ⟨p, 0, none⟩), .int .i64 size, .int .i64 came] 98 (0, 0))) (h : RefAt G κ w p D) (hs : 0 < D.first.length) (hh : D.image[0]? = some zsec) :
    Calls Try.prog 72 #[.pointer (some ⟨q, 0, none⟩)] w (Ret fun v w' => v = .tuple #[.slice none 0 0, .bool true] ∧ Grow w w') := by
  have hc0 : w.cell? ⟨q, 0, none⟩ = some (.pointer (some ⟨p, 0, none⟩)) := by rw [cell_block hq]; rfl
  apply enter72
  apply R_in
  simp (maxSteps := 600000) (disch := omega) only [F72, ↓sy1, sy2, sy3, readOK, sy5, sy6, Nat.reduceEqDiff, ↓reduceIte, sy7, sy8, sy9, sya, oneOf, syb, syc, Nat.reduceAdd, Nat.reduceMul, syd, sye, syf, syg, syh, reduceCtorEq, hc0]
  refine call0 (rread_spec h (n := 0) hs) ?_
  rintro _ w1 ⟨u, rfl, hu, hg⟩
  have hz : D.image[0]'(by rw [D.image_length]; exact hs) = zsec := by
    rw [List.getElem?_eq_getElem (by rw [D.image_length]; exact hs)] at hh; exact Option.some.inj hh
  rw [hz] at hu
  have hlz : zsec.length = 512 := List.length_replicate
  have hul : ∀ w', lenF w' 0 u = some (.int .i64 512) := fun w' => by rw [hu.lenB, hlz]; rfl
  simp (maxSteps := 600000) (disch := omega) only [↓sy1, sy2, sy3, readOK, sy5, sy6, Nat.reduceEqDiff, ↓reduceIte, sy7, sy8, sy9, sya, oneOf, syb, syc, Nat.reduceAdd, Nat.reduceMul, syd, sye, syf, syg, syh, reduceCtorEq]
  refine loop_rule (fun e w' => ∃ i : Nat, i ≤ 512 ∧ e 7 = .int .i64 i ∧ e 6 = .bool true ∧ e 4 = u ∧ w' = w1) (fun e _ => 512 - (intOf (e 7)).toNat)
    ⟨0, by omega, by simp [upd, updO, ev], by simp [upd, updO, ev], by simp [upd, updO, ev], rfl⟩ ?_
  rintro e w2 ⟨i, hi, e7, e6, e4, rfl⟩
  by_cases hlt : i < 512
  · obtain ⟨a, ha, hac, _⟩ := hu.getB (i := i) (by omega)
    have hzi : zsec[i]'(by omega) = 0 := List.getElem_replicate ..
    rw [hzi] at hac
    simp (maxSteps := 600000) (disch := omega) only [F72_L0, ↓sy1, sy2, sy3, readOK, sy5, sy6, Nat.reduceEqDiff, ↓reduceIte, sy7, sy8, sy9, sya, oneOf, syb, syc, Nat.reduceAdd, Nat.reduceMul, syd, sye, syf, syg, syh, reduceCtorEq, e7, e6, e4, hul, show ((i : Int) < 512) from by omega, decide_true, ha, hac, show (((0 : UInt8).toNat : Int) = 0) = True from by simp]
    refine R_out ⟨⟨i + 1, by omega, rfl⟩, ?_⟩
    simp only [intOf]; omega
  · simp (maxSteps := 600000) (disch := omega) only [F72_L0, ↓sy1, sy2, sy3, readOK, sy5, sy6, Nat.reduceEqDiff, ↓reduceIte, sy7, sy8, sy9, sya, oneOf, syb, syc, Nat.reduceAdd, Nat.reduceMul, syd, sye, syf, syg, syh, reduceCtorEq, e7, e6, e4, hul, show ¬ ((i : Int) < 512) from by omega, decide_false]
    exact R_out hg
theorem fillF_rlog {a b c x y : Value} (hx : isCell x = true) (hy : isCell y = true) : fillF #[a, b, c] [(0, 1, x), (1, 1, y)] = some #[x, y, c] := by
  rw [fillF_cell hx (by simp), fillF_cell hy (by simp), fillF_nil]; simp
theorem ropen_nil {w : World} {n : Int} : Calls Try.prog 38 #[.pointer none, .int .i64 n] w (Ret fun v w' => v = .tuple #[.pointer none, .int .i64 1] ∧ w' = w) := by
  apply enter38
  apply R_in
  simp (maxSteps := 600000) (disch := omega) only [F38, ↓sy1, sy2, sy3, readOK, sy5, sy6, Nat.reduceEqDiff, ↓reduceIte, sy7, sy8, sy9, sya, oneOf, syb, syc, Nat.reduceAdd, Nat.reduceMul, syd, sye, syf, syg, syh, reduceCtorEq]
  exact R_out trivial
theorem ropen_bad {G : Gh} {κ : Nat} {w : World} {p : Nat} {n : Int} {D : Dsk} (h : RefAt G κ w p D) (hn : n < 1 ∨ (D.first.length : Int) - 2 < n) :
    Calls Try.prog 38 #[.pointer (some ⟨p, 0, none⟩), .int .i64 n] w (Ret fun v w' => v = .tuple #[.pointer none, .int .i64 2] ∧ w' = w) := by
  have hmost := h.ok.most
  apply enter38
  apply R_in
  by_cases h1 : n < 1
  · simp (maxSteps := 600000) (disch := omega) only [F38, ↓sy1, sy2, sy3, readOK, sy5, sy6, Nat.reduceEqDiff, ↓reduceIte, sy7, sy8, sy9, sya, oneOf, syb, syc, Nat.reduceAdd, Nat.reduceMul, syd, sye, syf, syg, syh, reduceCtorEq, h1, decide_true]
    exact R_out trivial
  · simp (maxSteps := 600000) (disch := omega) only [F38, ↓sy1, sy2, sy3, readOK, sy5, sy6, Nat.reduceEqDiff, ↓reduceIte, sy7, sy8, sy9, sya, oneOf, syb, syc, Nat.reduceAdd, Nat.reduceMul, syd, sye, syf, syg, syh, reduceCtorEq, h1, decide_false]
    refine call0 (rsectors_spec h) ?_
    rintro _ w1 ⟨rfl, rfl⟩
    simp (maxSteps := 600000) (disch := omega) only [↓sy1, sy2, sy3, readOK, sy5, sy6, Nat.reduceEqDiff, ↓reduceIte, sy7, sy8, sy9, sya, oneOf, syb, syc, Nat.reduceAdd, Nat.reduceMul, syd, sye, syf, syg, syh, reduceCtorEq, show ((D.first.length : Int) - 2 < n) from by omega, decide_true]
    exact R_out trivial
theorem ropen0_spec {G : Gh} {κ : Nat} {w : World} {p size : Nat} {D : Dsk} (κ' : Nat) (hκ : κ' ≠ 0) (h : RefAt G κ w p D) (h1 : 1 ≤ size) (h2 : size + 2 ≤ D.first.length) (hh : D.image[0]? = some zsec) :
    Calls Try.prog 38 #[.pointer (some ⟨p, 0, none⟩), .int .i64 size] w (Ret fun v w' => ∃ q G', v = .tuple #[.pointer (some ⟨q, 0, none⟩), .int .i64 0] ∧ w.heap.size ≤ q ∧ RLogAt G' κ' w' q size 0 D ∧ Ext0 G w G' w') := by
  have hmost := h.ok.most
  apply enter38
  apply R_in
  simp (maxSteps := 600000) (disch := omega) only [F38, ↓sy1, sy2, sy3, readOK, sy5, sy6, Nat.reduceEqDiff, ↓reduceIte, sy7, sy8, sy9, sya, oneOf, syb, syc, Nat.reduceAdd, Nat.reduceMul, syd, sye, syf, syg, syh, reduceCtorEq, show ¬ ((size : Int) < 1) from by omega, decide_false]
  refine call0 (rsectors_spec h) ?_
  rintro _ w1 ⟨rfl, rfl⟩
  simp (maxSteps := 600000) (disch := omega) only [↓sy1, sy2, sy3, readOK, sy5, sy6, Nat.reduceEqDiff, ↓reduceIte, sy7, sy8, sy9, sya, oneOf, syb, syc, Nat.reduceAdd, Nat.reduceMul, syd, sye, syf, syg, syh, reduceCtorEq, show ¬ ((D.first.length : Int) - 2 < (size : Int)) from by omega, decide_false]
  refine call0 (rfork_spec κ' h) ?_
  rintro _ w2 ⟨p2, G2, rfl, hp2, hd2, hx2⟩
  have hsz2 := hx2.size
  simp (maxSteps := 600000) (disch := omega) only [↓sy1, sy2, sy3, readOK, sy5, sy6, Nat.reduceEqDiff, ↓reduceIte, sy7, sy8, sy9, sya, oneOf, syb, syc, Nat.reduceAdd, Nat.reduceMul, syd, sye, syf, syg, syh, reduceCtorEq, fill_gen, List.map_cons, List.map_nil, fillF_rlog (a := .pointer none) (b := .int .i64 0) (c := .int .i64 0) (x := .pointer (some ⟨p2, 0, none⟩)) (y := .int .i64 size) rfl rfl, agg3_cells (x := .pointer (some ⟨p2, 0, none⟩)) (y := .int .i64 size) (z := .int .i64 0) rfl rfl rfl]
  have hg3 : Grow w2 (w2.alloc (.cells #[.pointer (some ⟨p2, 0, none⟩), .int .i64 size, .int .i64 0] 98)) := (Keep.refl _ _).alloc _
  have hb3 := heap_alloc_new w2 (.cells #[.pointer (some ⟨p2, 0, none⟩), .int .i64 size, .int .i64 0] 98)
  generalize w2.alloc (.cells #[.pointer (some ⟨p2, 0, none⟩), .int .i64 size, .int .i64 0] 98) = w3 at hg3 hb3 ⊢
  refine call0 (rhead0_spec (came := 0) hb3 (hd2.grow hg3) (by omega) hh) ?_
  rintro _ w4 ⟨rfl, hg4⟩
  have hnl : ∀ w', lenF w' 0 (.slice none 0 0) = some (.int .i64 0) := fun w' => rfl
  simp (maxSteps := 600000) (disch := omega) only [↓sy1, sy2, sy3, readOK, sy5, sy6, Nat.reduceEqDiff, ↓reduceIte, sy7, sy8, sy9, sya, oneOf, syb, syc, Nat.reduceAdd, Nat.reduceMul, syd, sye, syf, syg, syh, reduceCtorEq, hnl, show ¬ ((0 : Int) < 0) from by omega, decide_false]
  have hx4 : Ext0 G2 w2 (G2.new w2.heap.size) w4 := .newB (hg3.trans hg4)
  exact R_out ⟨_, G2.new w2.heap.size, rfl, by omega, ⟨hκ, h1, h2, Gh.new_own (Nat.le_refl _), p2, hg4.gheap hb3, hd2.ext hx4 id⟩, hx2.trans hx4⟩
end Go.Proofs.Ytneehlkofcdhoaa

/- Logs over a new disk: the program's and the reference's. -/
namespace Go.Proofs.Ytneehlkofcdhoaa
open Go
set_option linter.unusedSimpArgs false
open Go.RowKit (intOf)
/-- No log. -/
theorem lopen_none {w : World} {n size : Int} (h : ¬ ((1 ≤ n ∧ n ≤ 4096) ∧ (1 ≤ size ∧ size ≤ n - 2))) :
    Calls Try.prog 11 #[.int .i64 n, .int .i64 size] w (Ret fun v w' => v = .tuple #[.pointer none, .pointer none, .bool true] ∧ Grow w w') := by
  apply enter11
  apply R_in
  by_cases hn : 1 ≤ n ∧ n ≤ 4096
  · have hsz : size < 1 ∨ n - 2 < size := by omega
    obtain ⟨m, rfl⟩ : ∃ m : Nat, n = m := ⟨n.toNat, by omega⟩
    simp (maxSteps := 600000) (disch := omega) only [F11, ↓sy1, sy2, sy3, readOK, sy5, sy6, Nat.reduceEqDiff, ↓reduceIte, sy7, sy8, sy9, sya, oneOf, syb, syc, Nat.reduceAdd, Nat.reduceMul, syd, sye, syf, syg, syh, reduceCtorEq]
    refine call0 (new_spec G00 1 (n := m) (by omega) (by omega)) ?_
    rintro _ w1 ⟨p, G1, rfl, hp1, hd1, hx1⟩
    simp (maxSteps := 600000) (disch := omega) only [↓sy1, sy2, sy3, readOK, sy5, sy6, Nat.reduceEqDiff, ↓reduceIte, sy7, sy8, sy9, sya, oneOf, syb, syc, Nat.reduceAdd, Nat.reduceMul, syd, sye, syf, syg, syh, reduceCtorEq]
    refine call0 (rnew_spec G1 2 (n := m) (by omega) (by omega)) ?_
    rintro _ w2 ⟨r, G2, rfl, hr1, hr2, hx2⟩
    simp (maxSteps := 600000) (disch := omega) only [↓sy1, sy2, sy3, readOK, sy5, sy6, Nat.reduceEqDiff, ↓reduceIte, sy7, sy8, sy9, sya, oneOf, syb, syc, Nat.reduceAdd, Nat.reduceMul, syd, sye, syf, syg, syh, reduceCtorEq, decide_true, Bool.not_true]
    refine call0 (open_bad (hd1.ext hx2 id) (by rw [zero_len]; exact hsz)) ?_
    rintro _ w3 ⟨rfl, rfl⟩
    simp (maxSteps := 600000) (disch := omega) only [↓sy1, sy2, sy3, readOK, sy5, sy6, Nat.reduceEqDiff, ↓reduceIte, sy7, sy8, sy9, sya, oneOf, syb, syc, Nat.reduceAdd, Nat.reduceMul, syd, sye, syf, syg, syh, reduceCtorEq]
    refine call0 (ropen_bad hr2 (by rw [zero_len]; exact hsz)) ?_
    rintro _ w3 ⟨rfl, rfl⟩
    simp (maxSteps := 600000) (disch := omega) only [↓sy1, sy2, sy3, readOK, sy5, sy6, Nat.reduceEqDiff, ↓reduceIte, sy7, sy8, sy9, sya, oneOf, syb, syc, Nat.reduceAdd, Nat.reduceMul, syd, sye, syf, syg, syh, reduceCtorEq, decide_true, beq_self_eq_true]
    exact R_out (((hx1.trans hx2).mono (fun _ h => h.elim)).toGrow (κ := fun _ => False) id)
  · have hb : n < 1 ∨ 4096 < n := by omega
    simp (maxSteps := 600000) (disch := omega) only [F11, ↓sy1, sy2, sy3, readOK, sy5, sy6, Nat.reduceEqDiff, ↓reduceIte, sy7, sy8, sy9, sya, oneOf, syb, syc, Nat.reduceAdd, Nat.reduceMul, syd, sye, syf, syg, syh, reduceCtorEq]
    refine call0 (new_bad hb) ?_
    rintro _ w1 ⟨rfl, rfl⟩
    simp (maxSteps := 600000) (disch := omega) only [↓sy1, sy2, sy3, readOK, sy5, sy6, Nat.reduceEqDiff, ↓reduceIte, sy7, sy8, sy9, sya, oneOf, syb, syc, Nat.reduceAdd, Nat.reduceMul, syd, sye, syf, syg, syh, reduceCtorEq]
    refine call0 (rnew_bad hb) ?_
    rintro _ w2 ⟨rfl, rfl⟩
    simp (maxSteps := 600000) (disch := omega) only [↓sy1, sy2, sy3, readOK, sy5, sy6, Nat.reduceEqDiff, ↓reduceIte, sy7, sy8, sy9, sya, oneOf, syb, syc, Nat.reduceAdd, Nat.reduceMul, syd, sye, syf, syg, syh, reduceCtorEq, decide_true, Bool.not_true]
    refine call0 open_nil ?_
    rintro _ w3 ⟨rfl, rfl⟩
    simp (maxSteps := 600000) (disch := omega) only [↓sy1, sy2, sy3, readOK, sy5, sy6, Nat.reduceEqDiff, ↓reduceIte, sy7, sy8, sy9, sya, oneOf, syb, syc, Nat.reduceAdd, Nat.reduceMul, syd, sye, syf, syg, syh, reduceCtorEq]
    refine call0 ropen_nil ?_
    rintro _ w3 ⟨rfl, rfl⟩
    simp (maxSteps := 600000) (disch := omega) only [↓sy1, sy2, sy3, readOK, sy5, sy6, Nat.reduceEqDiff, ↓reduceIte, sy7, sy8, sy9, sya, oneOf, syb, syc, Nat.reduceAdd, Nat.reduceMul, syd, sye, syf, syg, syh, reduceCtorEq, decide_true, beq_self_eq_true]
    exact R_out (Keep.refl _ _)
/-- Both logs. -/
theorem lopen_spec {G : Gh} {w : World} {n size : Nat} (κ κ' : Nat) (hκ : κ ≠ 0) (hκ' : κ' ≠ 0) (hn : n ≤ 4096) (h1 : 1 ≤ size) (h2 : size + 2 ≤ n) :
    Calls Try.prog 11 #[.int .i64 n, .int .i64 size] w (Ret fun v w' => ∃ q r G', v = .tuple #[.pointer (some ⟨q, 0, none⟩), .pointer (some ⟨r, 0, none⟩), .bool true] ∧ w.heap.size ≤ q ∧ LogAt G' κ w' q size 0 (Dsk.zero n) ∧ RLogAt G' κ' w' r size 0 (Dsk.zero n) ∧ Ext0 G w G' w') := by
  apply enter11
  apply R_in
  simp (maxSteps := 600000) (disch := omega) only [F11, ↓sy1, sy2, sy3, readOK, sy5, sy6, Nat.reduceEqDiff, ↓reduceIte, sy7, sy8, sy9, sya, oneOf, syb, syc, Nat.reduceAdd, Nat.reduceMul, syd, sye, syf, syg, syh, reduceCtorEq]
  refine call0 (new_spec G 1 (n := n) (by omega) hn) ?_
  rintro _ w1 ⟨p, G1, rfl, hp1, hd1, hx1⟩
  simp (maxSteps := 600000) (disch := omega) only [↓sy1, sy2, sy3, readOK, sy5, sy6, Nat.reduceEqDiff, ↓reduceIte, sy7, sy8, sy9, sya, oneOf, syb, syc, Nat.reduceAdd, Nat.reduceMul, syd, sye, syf, syg, syh, reduceCtorEq]
  refine call0 (rnew_spec G1 2 (n := n) (by omega) hn) ?_
  rintro _ w2 ⟨r, G2, rfl, hr1, hr2, hx2⟩
  simp (maxSteps := 600000) (disch := omega) only [↓sy1, sy2, sy3, readOK, sy5, sy6, Nat.reduceEqDiff, ↓reduceIte, sy7, sy8, sy9, sya, oneOf, syb, syc, Nat.reduceAdd, Nat.reduceMul, syd, sye, syf, syg, syh, reduceCtorEq, decide_true, Bool.not_true]
  refine call0 (open_spec κ hκ (hd1.ext hx2 id) h1 (by rw [zero_len]; exact h2) (.inl (zero_image (by omega)))) ?_
  rintro _ w3 ⟨q, G3, rfl, hq3, hl3, hx3⟩
  simp (maxSteps := 600000) (disch := omega) only [↓sy1, sy2, sy3, readOK, sy5, sy6, Nat.reduceEqDiff, ↓reduceIte, sy7, sy8, sy9, sya, oneOf, syb, syc, Nat.reduceAdd, Nat.reduceMul, syd, sye, syf, syg, syh, reduceCtorEq]
  refine call0 (ropen0_spec κ' hκ' (hr2.ext hx3 id) h1 (by rw [zero_len]; exact h2) (zero_image (by omega))) ?_
  rintro _ w4 ⟨r4, G4, rfl, hr4, hl4, hx4⟩
  simp (maxSteps := 600000) (disch := omega) only [↓sy1, sy2, sy3, readOK, sy5, sy6, Nat.reduceEqDiff, ↓reduceIte, sy7, sy8, sy9, sya, oneOf, syb, syc, Nat.reduceAdd, Nat.reduceMul, syd, sye, syf, syg, syh, reduceCtorEq, decide_true, beq_self_eq_true]
  have hs := (hx1.trans hx2).size
  exact R_out ⟨q, r4, G4, rfl, by omega, hl3.ext hx4 id id, hl4, ((hx1.trans hx2).trans hx3).trans hx4⟩
end Go.Proofs.Ytneehlkofcdhoaa

/- Deeds in memory; all pages; groups one after the other. -/
namespace Go.Proofs.Ytneehlkofcdhoaa
open Go
set_option linter.unusedSimpArgs false
open Go.RowKit (intOf)
def DeedsAt (w : World) (v : Value) (l : List Deed3) : Prop :=
  ∃ xs, Has 3 w v xs ∧ xs.length = 3 * l.length ∧ ∀ i (h : i < l.length), ∃ u, xs[3 * i]? = some (.bool l[i].short) ∧ xs[3 * i + 1]? = some u ∧ xs[3 * i + 2]? = some (.int .u8 (l[i].byte.toNat : Int)) ∧ HasX w u l[i].pages
theorem DeedsAt.keep {S : Nat → Prop} {w w' : World} {v : Value} {l : List Deed3} (h : DeedsAt w v l) (hk : Keep S w w') (hs : ∀ b, b < w.heap.size → ¬ S b) : DeedsAt w' v l := by
  obtain ⟨xs, h1, h2, h3⟩ := h
  refine ⟨xs, h1.keep hk (fun b hb hne => hs b (h1.lt hne hb)), h2, fun i hi => ?_⟩
  obtain ⟨u, h4, h5, h6, h7⟩ := h3 i hi
  exact ⟨u, h4, h5, h6, h7.keep hk hs⟩
theorem DeedsAt.grow {w w' : World} {v : Value} {l : List Deed3} (h : DeedsAt w v l) (hk : Grow w w') : DeedsAt w' v l := h.keep hk (fun _ _ => id)
theorem DeedsAt.len {w : World} {v : Value} {l : List Deed3} (h : DeedsAt w v l) (w2 : World) : lenF w2 0 v = some (.int .i64 l.length) := by
  obtain ⟨xs, h1, h2, _⟩ := h
  rw [h1.lenk (by omega), h2, Nat.mul_div_cancel_left _ (by omega)]
theorem DeedsAt.at {w : World} {v : Value} {l : List Deed3} (h : DeedsAt w v l) {i : Nat} (hi : i < l.length) :
    ∃ a u, iaF 3 v (.int .i64 i) = some (.pointer (some a)) ∧ loadN w a 0 3 = some [.bool l[i].short, u, .int .u8 (l[i].byte.toNat : Int)] ∧ Deed3.At w (.agg #[.bool l[i].short, u, .int .u8 (l[i].byte.toNat : Int)]) l[i] := by
  obtain ⟨xs, h1, h2, h3⟩ := h
  obtain ⟨b, o, h5, h6, _⟩ := h1.idxk (i := i) (by omega)
  obtain ⟨u, h7, h8, h9, h10⟩ := h3 i hi
  obtain ⟨x, hx, hxc⟩ := h6 0 (by omega)
  obtain ⟨y, hy, hyc⟩ := h6 1 (by omega)
  obtain ⟨z, hz, hzc⟩ := h6 2 (by omega)
  rw [show i * 3 + 0 = 3 * i from by omega, h7] at hx
  rw [show i * 3 + 1 = 3 * i + 1 from by omega, h8] at hy
  rw [show i * 3 + 2 = 3 * i + 2 from by omega, h9] at hz
  cases hx; cases hy; cases hz
  exact ⟨_, u, h5, loadN3 hxc hyc hzc, u, rfl, h10⟩
/-- All pages. -/
def lpages (size : Nat) (D : Dsk) : List (List UInt8) := (D.image.drop (size + 1)).take 100
theorem lpages_length (size : Nat) (D : Dsk) : (lpages size D).length = min 100 (D.first.length - size - 1) := by
  simp [lpages, Dsk.image_length]; omega
theorem lpages_get {size : Nat} {D : Dsk} {i : Nat} (h : i < (lpages size D).length) : (lpages size D)[i] = D.image[size + 1 + i]'(by rw [lpages_length] at h; rw [D.image_length]; omega) := by
  simp [lpages]
theorem all_spec {G : Gh} {κ : Nat} {w : World} {q size came : Nat} {D : Dsk} (h : LogAt G κ w q size came D) :
    Calls Try.prog 19 #[.pointer (some ⟨q, 0, none⟩)] w (Ret fun v w' => FreshR w.heap.size 28 5 w' v (lpages size D) ∧ Grow w w') := by
  have hll := lpages_length size D
  have h512 : ∀ i (h : i < D.image.length), D.image[i].length = 512 := fun i hi => h.cells.choose_spec.1.ok.image _ (List.getElem_mem hi)
  have hil := D.image_length
  apply enter19
  apply R_in
  simp (maxSteps := 600000) (disch := omega) only [F19, ↓sy1, sy2, sy3, readOK, sy5, sy6, Nat.reduceEqDiff, ↓reduceIte, sy7, sy8, sy9, sya, oneOf, syb, syc, Nat.reduceAdd, Nat.reduceMul, syd, sye, syf, syg, syh, reduceCtorEq]
  refine loop_rule (fun e w' => ∃ i : Nat, i ≤ (lpages size D).length ∧ e 4 = .int .i64 i ∧ e 0 = .pointer (some ⟨q, 0, none⟩) ∧ Grow w w' ∧ FreshR w.heap.size 28 5 w' (e 3) ((lpages size D).take i)) (fun e _ => (lpages size D).length - (intOf (e 4)).toNat)
    ⟨0, by omega, by simp [upd, updO, ev], by simp [upd, updO, ev], Keep.refl _ _, by simpa [upd, updO, ev] using ⟨[], World.ownsRow_nil w _ _ _, trivial⟩⟩ ?_
  rintro e w1 ⟨i, hi, e4, e0, hg1, hf1⟩
  by_cases hlt : i < (lpages size D).length
  · simp (maxSteps := 600000) (disch := omega) only [F19_L0, ↓sy1, sy2, sy3, readOK, sy5, sy6, Nat.reduceEqDiff, ↓reduceIte, sy7, sy8, sy9, sya, oneOf, syb, syc, Nat.reduceAdd, Nat.reduceMul, syd, sye, syf, syg, syh, reduceCtorEq, e4, e0]
    refine call0 (pages_spec (h.grow hg1)) ?_
    rintro _ w2 ⟨rfl, hg2⟩
    have hg12 := hg1.trans hg2
    simp (maxSteps := 600000) (disch := omega) only [↓sy1, sy2, sy3, readOK, sy5, sy6, Nat.reduceEqDiff, ↓reduceIte, sy7, sy8, sy9, sya, oneOf, syb, syc, Nat.reduceAdd, Nat.reduceMul, syd, sye, syf, syg, syh, reduceCtorEq, e4, e0, show ((i : Int) < ((D.first.length - size - 1 : Nat) : Int)) from by omega, show ((i : Int) < 100) from by omega, decide_true]
    refine call0 (lread_spec (h.grow hg12) (n := i) (by omega)) ?_
    rintro _ w3 ⟨u, rfl, hu, hg3⟩
    have hget := lpages_get hlt
    have hul := (h512 (size + 1 + i) (by omega))
    rw [← hget] at hu hul
    have huc := (Has.own hu).isCell
    simp (maxSteps := 600000) (disch := omega) only [↓sy1, sy2, sy3, readOK, sy5, sy6, Nat.reduceEqDiff, ↓reduceIte, sy7, sy8, sy9, sya, oneOf, syb, syc, Nat.reduceAdd, Nat.reduceMul, syd, sye, syf, syg, syh, reduceCtorEq, e4, e0, fill_one, oneF_cell huc]
    have hga : Grow w3 (w3.alloc (.cells #[u] 28)) := (Keep.refl _ _).alloc _
    obtain ⟨vs, h1, h2⟩ := hf1.grow (hg2.trans hg3)
    have hlen : ((lpages size D).take i).length = i := by rw [List.length_take]; omega
    rw [hlen] at h1
    refine app_own elemR (by simp only [upd_at, Nat.reduceEqDiff, reduceIte, ev_tmp, ev_const, List.map_cons, List.map_nil]) (by simp only [upd_at, Nat.reduceEqDiff, reduceIte, ev_tmp, ev_const, List.map_cons, List.map_nil]) (own_grow h1 hga) Has.new1 (m := 1) rfl (by simpa using huc) (by omega) (by omega) (by have := (hg12.trans hg3).size; have := hga.size; omega) ?_
    intro out' w4 ho4 hg4
    simp (maxSteps := 600000) (disch := omega) only [↓sy1, sy2, sy3, readOK, sy5, sy6, Nat.reduceEqDiff, ↓reduceIte, sy7, sy8, sy9, sya, oneOf, syb, syc, Nat.reduceAdd, Nat.reduceMul, syd, sye, syf, syg, syh, reduceCtorEq, e4, e0]
    have hk4 : Keep (fun b => some b = (e 3).ownBlock) w3 w4 := (Keep.grow hga).trans (Keep.grown hg4)
    have hgw : Grow w w4 := (hg12.trans hg3).then hk4 (fun b hb hc => by have := (World.ownsRow.lt h1 b hc.symm).1; omega)
    have hnext : (lpages size D).take (i + 1) = (lpages size D).take i ++ [(lpages size D)[i]] := List.take_succ_eq_append_getElem hlt
    have hvr : w4.ownsRow w.heap.size 5 1 u (lpages size D)[i].length (bs (lpages size D)[i]) := by
      rw [hul]
      exact own_keep (own_base hu hg12.size) hk4 (fun b hb hc => own_ne hu h1 (by decide) hb hc.symm)
    refine R_out ⟨⟨i + 1, by omega, rfl, hgw, vs ++ [u], ?_, ?_⟩, ?_⟩
    · rw [hnext, List.length_append, hlen]; exact ho4
    · rw [hnext]
      exact (h2.keep hk4 (fun b hb u' n xs hu' hub => own_ne hu' h1 (by decide) hub hb.symm)).snoc hvr
    · simp only [intOf]; omega
  · have hie : i = (lpages size D).length := by omega
    rw [hie, List.take_length] at hf1
    simp (maxSteps := 600000) (disch := omega) only [F19_L0, ↓sy1, sy2, sy3, readOK, sy5, sy6, Nat.reduceEqDiff, ↓reduceIte, sy7, sy8, sy9, sya, oneOf, syb, syc, Nat.reduceAdd, Nat.reduceMul, syd, sye, syf, syg, syh, reduceCtorEq, e4, e0]
    refine call0 (pages_spec (h.grow hg1)) ?_
    rintro _ w2 ⟨rfl, hg2⟩
    by_cases hp : (i : Int) < ((D.first.length - size - 1 : Nat) : Int)
    · simp (maxSteps := 600000) (disch := omega) only [↓sy1, sy2, sy3, readOK, sy5, sy6, Nat.reduceEqDiff, ↓reduceIte, sy7, sy8, sy9, sya, oneOf, syb, syc, Nat.reduceAdd, Nat.reduceMul, syd, sye, syf, syg, syh, reduceCtorEq, e4, e0, hp, show ¬ ((i : Int) < 100) from by omega, decide_true, decide_false]
      exact R_out ⟨hf1.grow hg2, hg1.trans hg2⟩
    · simp (maxSteps := 600000) (disch := omega) only [↓sy1, sy2, sy3, readOK, sy5, sy6, Nat.reduceEqDiff, ↓reduceIte, sy7, sy8, sy9, sya, oneOf, syb, syc, Nat.reduceAdd, Nat.reduceMul, syd, sye, syf, syg, syh, reduceCtorEq, e4, e0, hp, decide_true, decide_false]
      exact R_out ⟨hf1.grow hg2, hg1.trans hg2⟩
theorem lpages_small {G : Gh} {κ : Nat} {w : World} {q size came : Nat} {D : Dsk} (h : LogAt G κ w q size came D) : Small (lpages size D) := fun l hl => by
  rw [h.cells.choose_spec.1.ok.image l (List.mem_of_mem_drop (List.mem_of_mem_take hl))]; omega
theorem ccode_ok {n size : Nat} {ps : List Pg} (h : ccode n size ps = 0) (hne : ps ≠ []) : ps.length ≤ min size 100 ∧ ¬ anyOut (n - size - 1) ps ∧ goodP ps := by
  simp only [ccode, if_neg hne] at h
  split at h
  · cases h
  · split at h
    · cases h
    · split at h
      · exact ⟨by omega, by assumption, by assumption⟩
      · cases h
theorem cdone_ok {n size : Nat} {D : Dsk} {ps : List Pg} (hn : D.first.length = n) (h : ccode n size ps = 0) (hne : ps ≠ []) : cdone size D ps = grouped size D (sortP ps) := by
  unfold cdone; rw [hn, if_pos ⟨hne, h⟩]
/-- Nothing waits. -/
def Flat (D : Dsk) : Prop := D.wait = fun _ => []
theorem Flat.waiting {D : Dsk} (h : Flat D) : D.waiting = [] := by
  unfold Dsk.waiting; rw [h]; simp
theorem cdone_flat {size : Nat} {D : Dsk} {ps : List Pg} (h : Flat D) : Flat (cdone size D ps) := by
  unfold cdone
  split
  · rw [grouped_eq]; exact Dsk.wait_fl _
  · exact h
theorem zero_flat (n : Nat) : Flat (Dsk.zero n) := rfl
theorem cdone_more (size : Nat) (D : Dsk) (ps : List Pg) : (cdone size D ps).ops.length = D.ops.length + if ccode D.first.length size ps = 0 ∧ ps ≠ [] then 2 * ps.length + 6 else 0 := by
  unfold cdone
  by_cases h : ps ≠ [] ∧ ccode D.first.length size ps = 0
  · rw [if_pos h, if_pos h.symm, grouped_ops, sortP_length]
  · rw [if_neg h, if_neg (fun h' => h h'.symm)]; rfl
/-- Groups, one after the other. -/
def commits (size : Nat) (D : Dsk) (l : List Deed3) : Dsk := l.foldl (fun D x => cdone size D x.pgs) D
theorem commits_snoc (size : Nat) (D : Dsk) (l : List Deed3) (x : Deed3) : commits size D (l ++ [x]) = cdone size (commits size D l) x.pgs := by simp [commits, List.foldl_append]
theorem commits_take {size : Nat} {D : Dsk} {l : List Deed3} {i : Nat} (h : i < l.length) : commits size D (l.take (i + 1)) = cdone size (commits size D (l.take i)) l[i].pgs := by
  rw [List.take_succ_eq_append_getElem h, commits_snoc]
theorem cdone_ops (size : Nat) (D : Dsk) (ps : List Pg) : (cdone size D ps).ops.length ≤ D.ops.length + 206 := by
  unfold cdone
  split
  · rename_i h
    have : ps.length ≤ 100 := by
      have h2 := h.2
      simp only [ccode, if_neg h.1] at h2
      split at h2
      · cases h2
      · omega
    rw [grouped_ops, sortP_length]; omega
  · omega
theorem commits_first (size : Nat) : ∀ (l : List Deed3) (D : Dsk), (commits size D l).first = D.first
  | [], _ => rfl
  | x :: l, D => (commits_first size l (cdone size D x.pgs)).trans (cdone_first _ _ _)
theorem commits_ops (size : Nat) : ∀ (l : List Deed3) (D : Dsk), (commits size D l).ops.length ≤ D.ops.length + 206 * l.length
  | [], _ => by simp [commits]
  | x :: l, D => by
    have h1 := commits_ops size l (cdone size D x.pgs)
    have h2 := cdone_ops size D x.pgs
    show (commits size (cdone size D x.pgs) l).ops.length ≤ _
    simp only [List.length_cons]; omega
theorem commits_flat {size : Nat} : ∀ {l : List Deed3} {D : Dsk}, Flat D → Flat (commits size D l)
  | [], _, h => h
  | x :: l, D, h => commits_flat (l := l) (cdone_flat (ps := x.pgs) h)
theorem commits_below {D : Dsk} {size : Nat} {l : List Deed3} {i k : Nat} (hi : i ≤ k) (hD : D.ops.length = 0) : (commits size D (l.take i)).ops.length ≤ 206 * k := by
  have h1 := commits_ops size (l.take i) D
  rw [hD, List.length_take] at h1
  have h2 : 206 * min i l.length ≤ 206 * k := Nat.mul_le_mul_left _ (by omega)
  omega
theorem pgs_most (x : Deed3) : x.pgs.length ≤ 1048576 := by rw [x.pgs_length]; omega
/-- Its head is none, or empty. -/
def Calm (D : Dsk) : Prop := D.image[0]? = some zsec ∨ D.image[0]? = some (headB [])
theorem cdone_calm {size : Nat} {D : Dsk} {ps : List Pg} (h : Calm D) (hf : 0 < D.first.length) : Calm (cdone size D ps) := by
  unfold cdone
  split
  · exact .inr (grouped_head hf)
  · exact h
theorem commits_calm {size : Nat} : ∀ {l : List Deed3} {D : Dsk}, Calm D → 0 < D.first.length → Calm (commits size D l)
  | [], _, h, _ => h
  | x :: l, D, h, hf => commits_calm (l := l) (cdone_calm (ps := x.pgs) h hf) (by rw [cdone_first]; exact hf)
theorem zero_calm {n : Nat} (h : 0 < n) : Calm (Dsk.zero n) := .inl (zero_image h)
end Go.Proofs.Ytneehlkofcdhoaa

/- What a head says, in plain words; a head of any bytes is read; a log is opened over any disk. -/
namespace Go.Proofs.Ytneehlkofcdhoaa
open Go
set_option linter.unusedSimpArgs false
open Go.RowKit (intOf)
def twoB (b : List UInt8) (i : Nat) : Nat := (b.getD i 0).toNat * 256 + (b.getD (i + 1) 0).toNat
theorem twoB_lt (b : List UInt8) (i : Nat) : twoB b i < 65536 := by
  have h1 := (b.getD i 0).toNat_lt
  have h2 := (b.getD (i + 1) 0).toNat_lt
  unfold twoB; omega
theorem twoB_zero (b : List UInt8) (k : Nat) : twoB (b.drop k) 0 = twoB b k := by
  simp [twoB, List.getElem?_drop]
theorem twoB_cons (x y : UInt8) (l : List UInt8) : twoB (x :: y :: l) 0 = x.toNat * 256 + y.toNat := rfl
theorem twoB_get {l : List UInt8} (h : 2 ≤ l.length) : l[0].toNat * 256 + l[1].toNat = twoB l 0 := by
  match l, h with
  | x :: y :: l, _ => rfl
def numsOf (b : List UInt8) (n : Nat) : List Nat := (List.range n).map fun i => twoB b (4 + 2 * i)
theorem numsOf_length (b : List UInt8) (n : Nat) : (numsOf b n).length = n := by simp [numsOf]
theorem numsOf_succ (b : List UInt8) (i : Nat) : numsOf b (i + 1) = numsOf b i ++ [twoB b (4 + 2 * i)] := by simp [numsOf, List.range_succ]
theorem numsOf_take (b : List UInt8) {n i : Nat} (h : i ≤ n) : (numsOf b n).take i = numsOf b i := by simp [numsOf, ← List.map_take, List.take_range, Nat.min_eq_left h]
def goodN (pages : Nat) (l : List Nat) : Prop := l.Pairwise (· < ·) ∧ ∀ p ∈ l, p < pages
instance (pages : Nat) (l : List Nat) : Decidable (goodN pages l) := by unfold goodN; infer_instance
def lastI (l : List Nat) : Int := match l.getLast? with | some x => (x : Int) | none => -1
theorem lastI_snoc (l : List Nat) (p : Nat) : lastI (l ++ [p]) = p := by simp [lastI]
theorem goodN_nil (pages : Nat) : goodN pages [] := ⟨List.Pairwise.nil, fun _ h => by simp at h⟩
theorem goodN_take {pages : Nat} {l : List Nat} (h : goodN pages l) (i : Nat) : goodN pages (l.take i) := ⟨h.1.sublist (List.take_sublist ..), fun p hp => h.2 p (List.mem_of_mem_take hp)⟩
theorem goodN_snoc {pages : Nat} {l : List Nat} {p : Nat} : goodN pages (l ++ [p]) ↔ goodN pages l ∧ lastI l < p ∧ p < pages := by
  constructor
  · rintro ⟨h1, h2⟩
    rw [List.pairwise_append] at h1
    refine ⟨⟨h1.1, fun q hq => h2 q (by simp [hq])⟩, ?_, h2 p (by simp)⟩
    unfold lastI
    split
    · rename_i x hx
      have := h1.2.2 x (List.mem_of_getLast? hx) p (by simp); omega
    · omega
  · rintro ⟨⟨h1, h2⟩, h3, h4⟩
    refine ⟨List.pairwise_append.2 ⟨h1, by simp, fun a ha c hc => ?_⟩, fun q hq => ?_⟩
    · simp at hc; subst hc
      obtain ⟨i, hi, rfl⟩ := List.getElem_of_mem ha
      have hne : l ≠ [] := fun h => by simp [h] at hi
      unfold lastI at h3
      rw [List.getLast?_eq_some_getLast hne] at h3
      simp only [List.getLast_eq_getElem] at h3
      by_cases hl : i = l.length - 1
      · subst hl; omega
      · have := List.pairwise_iff_getElem.1 h1 i (l.length - 1) hi (by omega) (by omega); omega
    · rcases List.mem_append.1 hq with hq | hq
      · exact h2 q hq
      · simp at hq; omega
open Classical in
/-- The numbers that a head has; none: it is no head. -/
noncomputable def headOf (cap pages : Nat) (b : List UInt8) : Option (List Nat) :=
  if ∀ x ∈ b, x = 0 then some []
  else if b.getD 0 0 = 0x44 ∧ b.getD 1 0 = 0x4e ∧ twoB b 2 ≤ cap ∧ (∀ x ∈ b.drop (4 + 2 * twoB b 2), x = 0) ∧ goodN pages (numsOf b (twoB b 2)) then some (numsOf b (twoB b 2)) else none
theorem headOf_zsec (cap pages : Nat) : headOf cap pages zsec = some [] := by
  have h : ∀ x ∈ zsec, x = 0 := fun x hx => (List.mem_replicate.1 hx).2
  rw [headOf, if_pos h]
theorem headOf_good {cap pages : Nat} {b : List UInt8} {ns : List Nat} (h : headOf cap pages b = some ns) : goodN pages ns ∧ ns.length ≤ cap := by
  unfold headOf at h
  split at h
  · cases h; exact ⟨goodN_nil _, Nat.zero_le _⟩
  · split at h
    · rename_i hc; cases h; exact ⟨hc.2.2.2.2, by rw [numsOf_length]; exact hc.2.2.1⟩
    · cases h
theorem headOf_headB {cap pages : Nat} {ns : List Nat} (hc : cap ≤ 100) (hl : ns.length ≤ cap) (hp : pages ≤ 65536) (hg : goodN pages ns) : headOf cap pages (headB ns) = some ns := by
  have h2 : twoB (headB ns) 2 = ns.length := by
    obtain ⟨r, hr⟩ := headB_two ns
    rw [← twoB_zero, hr, twoB_cons, hi_lo (by omega)]
  have hn : numsOf (headB ns) ns.length = ns := by
    refine List.ext_getElem (numsOf_length _ _) fun i h1 h2 => ?_
    simp only [numsOf, List.getElem_map, List.getElem_range]
    obtain ⟨r, hr⟩ := headB_at ns h2
    rw [← twoB_zero, hr, twoB_cons, hi_lo (by have := hg.2 _ (List.getElem_mem h2); omega)]
  rw [headOf, if_neg (fun h => absurd (h 0x44 (by simp [headB])) (by decide)), h2, hn, if_pos ⟨rfl, rfl, hl, by rw [headB_tail]; exact fun x hx => (List.mem_replicate.1 hx).2, hg⟩]
theorem u8_68 {b : UInt8} (h : (b.toNat : Int) = 68) : b = 0x44 := UInt8.toNat_inj.1 (by have h2 : b.toNat = 68 := by omega
                                                                                         rw [h2]; rfl)
theorem u8_78 {b : UInt8} (h : (b.toNat : Int) = 78) : b = 0x4e := UInt8.toNat_inj.1 (by have h2 : b.toNat = 78 := by omega
                                                                                         rw [h2]; rfl)
noncomputable def Dsk.head (size : Nat) (D : Dsk) : Option (List Nat) := headOf (min size 100) (D.first.length - size - 1) (D.image.getD 0 [])
theorem Dsk.image0 {D : Dsk} (h : D.Ok) : D.image.getD 0 [] = D.image[0]'(by rw [D.image_length]; exact h.some) := by
  rw [List.getD_eq_getElem?_getD, List.getElem?_eq_getElem]; rfl
/-- What head answers. -/
def HeadRes (B : Nat) (o : Option (List Nat)) (v : Value) (w' : World) : Prop := match o with
  | some ns => ∃ u, v = .tuple #[u, .bool true] ∧ w'.ownsRow B 3 1 u ns.length (ints (zs ns))
  | none => v = .tuple #[.slice none 0 0, .bool false]
set_option maxHeartbeats 1000000 in
theorem headg_spec {G : Gh} {κ : Nat} {w : World} {q size came : Nat} {D : Dsk} (h : LogAt G κ w q size came D) :
    Calls Try.prog 50 #[.pointer (some ⟨q, 0, none⟩)] w (Ret fun v w' => HeadRes w.heap.size (D.head size) v w' ∧ Grow w w') := by
  obtain ⟨p, hd, hc⟩ := h.cells
  have hs2 := h.2.2.1
  have hmost := hd.ok.most
  have hb512 : (D.image.getD 0 []).length = 512 := by rw [Dsk.image0 hd.ok]; exact hd.ok.image _ (List.getElem_mem _)
  unfold Dsk.head
  generalize hbb : D.image.getD 0 [] = bb at hb512 ⊢
  rw [Dsk.image0 hd.ok] at hbb
  apply enter50
  apply R_in
  simp (maxSteps := 600000) (disch := omega) only [F50, ↓sy1, sy2, sy3, readOK, sy5, sy6, Nat.reduceEqDiff, ↓reduceIte, sy7, sy8, sy9, sya, oneOf, syb, syc, Nat.reduceAdd, Nat.reduceMul, syd, sye, syf, syg, syh, reduceCtorEq, hc (Keep.refl _ _)]
  refine call0 (read_spec hd (n := 0) (by omega)) ?_
  rintro _ w1 ⟨b, rfl, hb, hg1⟩
  rw [hbb] at hb
  have hB := Has.own hb
  simp (maxSteps := 600000) (disch := omega) only [↓sy1, sy2, sy3, readOK, sy5, sy6, Nat.reduceEqDiff, ↓reduceIte, sy7, sy8, sy9, sya, oneOf, syb, syc, Nat.reduceAdd, Nat.reduceMul, syd, sye, syf, syg, syh, reduceCtorEq]
  refine call0 (zeros_spec hB (by omega)) ?_
  rintro v w2 ⟨⟨hall, rfl⟩ | ⟨hno, rfl⟩, rfl⟩
  · simp (maxSteps := 600000) (disch := omega) only [↓sy1, sy2, sy3, readOK, sy5, sy6, Nat.reduceEqDiff, ↓reduceIte, sy7, sy8, sy9, sya, oneOf, syb, syc, Nat.reduceAdd, Nat.reduceMul, syd, sye, syf, syg, syh, reduceCtorEq]
    refine R_out ?_
    rw [headOf, if_pos hall]
    exact ⟨⟨_, rfl, World.ownsRow_nil _ _ _ _⟩, hg1⟩
  obtain ⟨v2, hv2, hH2⟩ := hB.slcFrom (m := 2) (by rw [bs_length]; omega)
  rw [bs_drop] at hH2
  have hv2' : slcF 1 b (some (.int .i64 2)) none none = some v2 := hv2
  simp (maxSteps := 600000) (disch := omega) only [↓sy1, sy2, sy3, readOK, sy5, sy6, Nat.reduceEqDiff, ↓reduceIte, sy7, sy8, sy9, sya, oneOf, syb, syc, Nat.reduceAdd, Nat.reduceMul, syd, sye, syf, syg, syh, reduceCtorEq, hv2']
  refine call0 (two_spec hH2 (by rw [List.length_drop]; omega)) ?_
  rintro _ w3 ⟨rfl, hg3⟩
  rw [twoB_get (by rw [List.length_drop]; omega), twoB_zero]
  have hB3 := hB.grow hg3
  obtain ⟨a0, ha0, hac0, _⟩ := hB3.getB (i := 0) (by omega)
  obtain ⟨a1, ha1, hac1, _⟩ := hB3.getB (i := 1) (by omega)
  have hb0 : bb[0] = bb.getD 0 0 := by rw [List.getD_eq_getElem?_getD, List.getElem?_eq_getElem]; rfl
  have hb1 : bb[1] = bb.getD 1 0 := by rw [List.getD_eq_getElem?_getD, List.getElem?_eq_getElem]; rfl
  rw [hb0] at hac0
  rw [hb1] at hac1
  have ha0' : iaF 1 b (.int .i64 0) = some (.pointer (some a0)) := ha0
  have ha1' : iaF 1 b (.int .i64 1) = some (.pointer (some a1)) := ha1
  have hbad : ∀ {w' : World}, Grow w w' → ¬ (bb.getD 0 0 = 0x44 ∧ bb.getD 1 0 = 0x4e ∧ twoB bb 2 ≤ min size 100 ∧ (∀ x ∈ bb.drop (4 + 2 * twoB bb 2), x = 0) ∧ goodN (D.first.length - size - 1) (numsOf bb (twoB bb 2))) →
      R (HeadRes w.heap.size (headOf (min size 100) (D.first.length - size - 1) bb) (.tuple #[.slice none 0 0, .bool false]) w' ∧ Grow w w') := fun {w'} hg hn => by
    refine R_out ?_
    rw [headOf, if_neg hno, if_neg hn]
    exact ⟨rfl, hg⟩
  have hn2 := twoB_lt bb 2
  generalize hn : twoB bb 2 = n at hn2 hbad ⊢
  by_cases c0 : bb.getD 0 0 = 0x44
  rotate_left
  · have c0' : ¬ (((bb.getD 0 0).toNat : Int) = 68) := fun hc => c0 (u8_68 hc)
    simp (maxSteps := 600000) (disch := omega) only [↓sy1, sy2, sy3, readOK, sy5, sy6, Nat.reduceEqDiff, ↓reduceIte, sy7, sy8, sy9, sya, oneOf, syb, syc, Nat.reduceAdd, Nat.reduceMul, syd, sye, syf, syg, syh, reduceCtorEq, ha0', hac0, c0', decide_false]
    exact hbad (hg1.trans hg3) (fun hc => c0 hc.1)
  have c0' : (((bb.getD 0 0).toNat : Int) = 68) = True := by rw [c0]; simp
  by_cases c1 : bb.getD 1 0 = 0x4e
  rotate_left
  · have c1' : ¬ (((bb.getD 1 0).toNat : Int) = 78) := fun hc => c1 (u8_78 hc)
    simp (maxSteps := 600000) (disch := omega) only [↓sy1, sy2, sy3, readOK, sy5, sy6, Nat.reduceEqDiff, ↓reduceIte, sy7, sy8, sy9, sya, oneOf, syb, syc, Nat.reduceAdd, Nat.reduceMul, syd, sye, syf, syg, syh, reduceCtorEq, ha0', hac0, c0', ha1', hac1, c1', decide_false, decide_true]
    exact hbad (hg1.trans hg3) (fun hc => c1 hc.2.1)
  have c1' : (((bb.getD 1 0).toNat : Int) = 78) = True := by rw [c1]; simp
  simp (maxSteps := 600000) (disch := omega) only [↓sy1, sy2, sy3, readOK, sy5, sy6, Nat.reduceEqDiff, ↓reduceIte, sy7, sy8, sy9, sya, oneOf, syb, syc, Nat.reduceAdd, Nat.reduceMul, syd, sye, syf, syg, syh, reduceCtorEq, ha0', hac0, c0', ha1', hac1, c1', decide_true]
  refine call0 (capacity_spec (h.grow (hg1.trans hg3))) ?_
  rintro _ w4 ⟨rfl, rfl⟩
  by_cases c2 : n ≤ min size 100
  rotate_left
  · have c2' : ((min size 100 : Nat) : Int) < (n : Int) := by omega
    simp (maxSteps := 600000) (disch := omega) only [↓sy1, sy2, sy3, readOK, sy5, sy6, Nat.reduceEqDiff, ↓reduceIte, sy7, sy8, sy9, sya, oneOf, syb, syc, Nat.reduceAdd, Nat.reduceMul, syd, sye, syf, syg, syh, reduceCtorEq, c2', decide_true]
    exact hbad (hg1.trans hg3) (fun hc => c2 hc.2.2.1)
  obtain ⟨v5, hv5, hH5⟩ := hB3.slcFrom (m := 4 + 2 * n) (by rw [bs_length]; omega)
  rw [bs_drop] at hH5
  have hcast5 : (4 : Int) + 2 * (n : Int) = ((4 + 2 * n : Nat) : Int) := by omega
  have hng : ¬ (((min size 100 : Nat) : Int) < (n : Int)) := by omega
  simp (maxSteps := 600000) (disch := omega) only [↓sy1, sy2, sy3, readOK, sy5, sy6, Nat.reduceEqDiff, ↓reduceIte, sy7, sy8, sy9, sya, oneOf, syb, syc, Nat.reduceAdd, Nat.reduceMul, syd, sye, syf, syg, syh, reduceCtorEq, hng, decide_false, hcast5, hv5]
  refine call0 (zeros_spec hH5 (by simp; omega)) ?_
  rintro v w5 ⟨⟨c3, rfl⟩ | ⟨c3, rfl⟩, rfl⟩
  rotate_left
  · simp (maxSteps := 600000) (disch := omega) only [↓sy1, sy2, sy3, readOK, sy5, sy6, Nat.reduceEqDiff, ↓reduceIte, sy7, sy8, sy9, sya, oneOf, syb, syc, Nat.reduceAdd, Nat.reduceMul, syd, sye, syf, syg, syh, reduceCtorEq]
    exact hbad (hg1.trans hg3) (fun hc => c3 hc.2.2.2.1)
  simp (maxSteps := 600000) (disch := omega) only [↓sy1, sy2, sy3, readOK, sy5, sy6, Nat.reduceEqDiff, ↓reduceIte, sy7, sy8, sy9, sya, oneOf, syb, syc, Nat.reduceAdd, Nat.reduceMul, syd, sye, syf, syg, syh, reduceCtorEq]
  have hb5 := own_grow hb hg3
  have hg15 := hg1.trans hg3
  refine loop_rule (fun e w' => ∃ (i : Nat) (out : Value), i ≤ n ∧ e 51 = .int .i64 i ∧ e 50 = .int .i64 n ∧ e 4 = b ∧ e 0 = .pointer (some ⟨q, 0, none⟩) ∧ e 7 = .int .i64 (lastI (numsOf bb i)) ∧ e 8 = out ∧ goodN (D.first.length - size - 1) (numsOf bb i) ∧
      w'.ownsRow w.heap.size 3 1 out i (ints (zs (numsOf bb i))) ∧ w'.ownsRow w.heap.size 5 1 b 512 (bs bb) ∧ Grow w w') (fun e _ => n - (intOf (e 51)).toNat)
    ⟨0, .slice none 0 0, by omega, by simp [upd, updO, ev], by simp [upd, updO, ev], by simp [upd, updO, ev], by simp [upd, updO, ev], by simp [upd, updO, ev, lastI, numsOf], by simp [upd, updO, ev], goodN_nil _, World.ownsRow_nil w5 _ _ _, by rw [← hb512]; rw [← hb512] at hb5; exact hb5, hg15⟩ ?_
  rintro e w6 ⟨i, out, hi', e51, e50, e4, e0, e7, e8, hgd, hown, hb6, hg6⟩
  have hB6 := Has.own hb6
  by_cases hlt : i < n
  · obtain ⟨v7, hv7, hH7⟩ := hB6.slcFrom (m := 4 + 2 * i) (by rw [bs_length]; omega)
    rw [bs_drop] at hH7
    have hcast7 : (4 : Int) + 2 * (i : Int) = ((4 + 2 * i : Nat) : Int) := by omega
    have hsn := goodN_snoc (pages := D.first.length - size - 1) (l := numsOf bb i) (p := twoB bb (4 + 2 * i))
    rw [← numsOf_succ] at hsn
    have hup : goodN (D.first.length - size - 1) (numsOf bb n) → goodN (D.first.length - size - 1) (numsOf bb (i + 1)) := fun hg => by
      rw [← numsOf_take bb (show i + 1 ≤ n from hlt)]; exact goodN_take hg _
    have h7 := twoB_lt bb (4 + 2 * i)
    have hsucc := numsOf_succ bb i
    simp (maxSteps := 600000) (disch := omega) only [F50_L0, ↓sy1, sy2, sy3, readOK, sy5, sy6, Nat.reduceEqDiff, ↓reduceIte, sy7, sy8, sy9, sya, oneOf, syb, syc, Nat.reduceAdd, Nat.reduceMul, syd, sye, syf, syg, syh, reduceCtorEq, e51, e50, e4, e0, e7, e8, Int.ofNat_lt, hlt, decide_true, hcast7, hv7]
    refine call0 (two_spec hH7 (by rw [List.length_drop]; omega)) ?_
    rintro _ w7 ⟨rfl, hg7⟩
    rw [twoB_get (by rw [List.length_drop]; omega), twoB_zero]
    generalize twoB bb (4 + 2 * i) = p7 at h7 hsucc hsn ⊢
    by_cases hlast : (p7 : Int) ≤ lastI (numsOf bb i)
    · simp (maxSteps := 600000) (disch := omega) only [↓sy1, sy2, sy3, readOK, sy5, sy6, Nat.reduceEqDiff, ↓reduceIte, sy7, sy8, sy9, sya, oneOf, syb, syc, Nat.reduceAdd, Nat.reduceMul, syd, sye, syf, syg, syh, reduceCtorEq, e51, e50, e4, e0, e7, e8, hlast, decide_true]
      exact hbad (hg6.trans hg7) (fun hc => by have := (hsn.1 (hup hc.2.2.2.2)).2.1; omega)
    simp (maxSteps := 600000) (disch := omega) only [↓sy1, sy2, sy3, readOK, sy5, sy6, Nat.reduceEqDiff, ↓reduceIte, sy7, sy8, sy9, sya, oneOf, syb, syc, Nat.reduceAdd, Nat.reduceMul, syd, sye, syf, syg, syh, reduceCtorEq, e51, e50, e4, e0, e7, e8, hlast, decide_false]
    refine call0 (pages_spec (h.grow (hg6.trans hg7))) ?_
    rintro _ w8 ⟨rfl, hg8⟩
    by_cases hpp : ((D.first.length - size - 1 : Nat) : Int) ≤ (p7 : Int)
    · simp (maxSteps := 600000) (disch := omega) only [↓sy1, sy2, sy3, readOK, sy5, sy6, Nat.reduceEqDiff, ↓reduceIte, sy7, sy8, sy9, sya, oneOf, syb, syc, Nat.reduceAdd, Nat.reduceMul, syd, sye, syf, syg, syh, reduceCtorEq, e51, e50, e4, e0, e7, e8, hpp, decide_true]
      exact hbad ((hg6.trans hg7).trans hg8) (fun hc => by have := (hsn.1 (hup hc.2.2.2.2)).2.2; omega)
    simp (maxSteps := 600000) (disch := omega) only [↓sy1, sy2, sy3, readOK, sy5, sy6, Nat.reduceEqDiff, ↓reduceIte, sy7, sy8, sy9, sya, oneOf, syb, syc, Nat.reduceAdd, Nat.reduceMul, syd, sye, syf, syg, syh, reduceCtorEq, e51, e50, e4, e0, e7, e8, hpp, decide_false]
    have hown8 := own_grow hown (hg7.trans hg8)
    have hga : Grow w8 (w8.alloc (.cells #[.int .i64 (p7 : Int)] 3)) := (Keep.refl _ _).alloc _
    refine app_own elemI (by simp only [upd_at, Nat.reduceEqDiff, reduceIte, ev_tmp, ev_const, List.map_cons, List.map_nil, e8]) (by simp only [upd_at, Nat.reduceEqDiff, reduceIte, ev_tmp, ev_const, List.map_cons, List.map_nil]) (own_grow hown8 hga) Has.new1 (m := 1) rfl (by simp [isCell]) (by omega) (by omega) (by have := ((hg6.trans hg7).trans hg8).size; simp; omega) ?_
    intro out' w9 ho9 hg9
    simp (maxSteps := 600000) (disch := omega) only [↓sy1, sy2, sy3, readOK, sy5, sy6, Nat.reduceEqDiff, ↓reduceIte, sy7, sy8, sy9, sya, oneOf, syb, syc, Nat.reduceAdd, Nat.reduceMul, syd, sye, syf, syg, syh, reduceCtorEq, e51, e50, e4, e0]
    have hgw : Grow w w9 := (((hg6.trans hg7).trans hg8).trans hga).then (Keep.grown hg9) (fun bb hbb hs => by
      obtain ⟨hbl, _⟩ := World.ownsRow.lt hown8 bb hs.symm; omega)
    have hb8 := own_grow hb6 (hg7.trans hg8)
    have hk9 := (Keep.refl (fun bb => some bb = out.ownBlock) w8).trans (((Keep.refl _ _).alloc (.cells #[.int .i64 (p7 : Int)] 3)).trans (Keep.grown hg9))
    have hb9 := own_keep hb8 hk9 (fun bb hbb hs => own_ne hown8 hb8 (by decide) hs.symm hbb)
    refine R_out ⟨⟨i + 1, out', by omega, rfl, ?_, rfl, hsn.2 ⟨hgd, by omega, by omega⟩, ?_, hb9, hgw⟩, ?_⟩
    · rw [hsucc, lastI_snoc]
    · have hts : ints (zs (numsOf bb (i + 1))) = ints (zs (numsOf bb i)) ++ [.int .i64 (p7 : Int)] := by
        rw [hsucc, zs, List.map_append, ints, List.map_append]; rfl
      rw [hts]; exact ho9
    · simp only [intOf]; omega
  · have hie : i = n := by omega
    subst hie
    simp (maxSteps := 600000) (disch := omega) only [F50_L0, ↓sy1, sy2, sy3, readOK, sy5, sy6, Nat.reduceEqDiff, ↓reduceIte, sy7, sy8, sy9, sya, oneOf, syb, syc, Nat.reduceAdd, Nat.reduceMul, syd, sye, syf, syg, syh, reduceCtorEq, e51, e50, e4, e0, e7, e8, Int.ofNat_lt, hlt, decide_false]
    refine R_out ?_
    rw [headOf, if_neg hno, hn, if_pos ⟨c0, c1, c2, c3, hgd⟩]
    rw [← numsOf_length bb i] at hown
    exact ⟨⟨out, rfl, by simpa [numsOf_length] using hown⟩, hg6⟩
end Go.Proofs.Ytneehlkofcdhoaa

/- A log is opened over any disk. -/
namespace Go.Proofs.Ytneehlkofcdhoaa
open Go
set_option linter.unusedSimpArgs false
open Go.RowKit (intOf)
/-- The copies of a head's pages. -/
def pairsOf (D : Dsk) (ns : List Nat) : List (Nat × List UInt8) := ns.zipIdx.map fun p => (p.1, D.image.getD (1 + p.2) [])
theorem pairsOf_length (D : Dsk) (ns : List Nat) : (pairsOf D ns).length = ns.length := by simp [pairsOf]
theorem pairsOf_get (D : Dsk) (ns : List Nat) {i : Nat} (h : i < (pairsOf D ns).length) : (pairsOf D ns)[i] = (ns[i]'(by rw [pairsOf_length] at h; exact h), D.image.getD (1 + i) []) := by
  simp [pairsOf]
theorem pairsOf_fst (D : Dsk) (ns : List Nat) : (pairsOf D ns).map (·.1) = ns := by
  refine List.ext_getElem (by simp [pairsOf]) fun i h1 h2 => ?_
  rw [List.getElem_map, pairsOf_get]
/-- The disk of a log that is opened, and how many pages came; none: it is broken. -/
noncomputable def opened (size : Nat) (D : Dsk) : Option (Dsk × Nat) := (D.head size).map fun ns => (if ns = [] then D else homed size D (pairsOf D ns), ns.length)
theorem opened_none {size : Nat} {D : Dsk} (h : D.head size = none) : opened size D = none := by simp [opened, h]
theorem opened_nil {size : Nat} {D : Dsk} (h : D.head size = some []) : opened size D = some (D, 0) := by simp [opened, h]
theorem opened_some {size : Nat} {D : Dsk} {ns : List Nat} (h : D.head size = some ns) (hn : ns ≠ []) : opened size D = some (homed size D (pairsOf D ns), ns.length) := by simp [opened, h, hn]
theorem pairsOf_ok {size : Nat} {D : Dsk} {ns : List Nat} (hok : D.Ok) (h : D.head size = some ns) (h2 : size + 2 ≤ D.first.length) :
    (pairsOf D ns).length ≤ size ∧ (∀ p ∈ pairsOf D ns, p.2.length = 512 ∧ size + 1 + p.1 < D.first.length) ∧ ∀ i (h : i < (pairsOf D ns).length), D.image[1 + i]? = some (pairsOf D ns)[i].2 := by
  obtain ⟨⟨hr, hp⟩, hl⟩ := headOf_good h
  have hlen := pairsOf_length D ns
  have himg : ∀ i, i < ns.length → D.image[1 + i]? = some (D.image.getD (1 + i) []) := fun i hi => by
    have : 1 + i < D.image.length := by rw [D.image_length]; omega
    rw [List.getD_eq_getElem?_getD, List.getElem?_eq_getElem this]; rfl
  refine ⟨by omega, fun p hpm => ?_, fun i hi => ?_⟩
  · obtain ⟨i, hi, rfl⟩ := List.getElem_of_mem hpm
    rw [pairsOf_get]
    rw [hlen] at hi
    have h3 := hp ns[i] (List.getElem_mem hi)
    have h4 := List.mem_of_getElem? (himg i hi)
    exact ⟨hok.image _ h4, by simp only; omega⟩
  · rw [pairsOf_get]
    exact himg i (by omega)
/-- What Open answers. -/
def OpenRes (G : Gh) (κ' : Nat) (w : World) (size : Nat) (o : Option (Dsk × Nat)) (v : Value) (w' : World) : Prop := match o with
  | some (E, came) => ∃ q G', v = .tuple #[.pointer (some ⟨q, 0, none⟩), .int .i64 0] ∧ w.heap.size ≤ q ∧ LogAt G' κ' w' q size came E ∧ Ext (fun c => c = κ') G w G' w'
  | none => v = .tuple #[.pointer none, .int .i64 9] ∧ Grow w w'
set_option maxHeartbeats 1000000 in
theorem openg_spec {G : Gh} {κ : Nat} {w : World} {p size : Nat} {D : Dsk} (κ' : Nat) (hκ : κ' ≠ 0) (h : DiskAt G κ w p D) (h1 : 1 ≤ size) (h2 : size + 2 ≤ D.first.length) (ho : D.ops.length < 700000) :
    Calls Try.prog 16 #[.pointer (some ⟨p, 0, none⟩), .int .i64 size] w (Ret fun v w' => OpenRes G κ' w size (opened size D) v w') := by
  have hmost := h.ok.most
  have hok := h.ok
  apply enter16
  apply R_in
  simp (maxSteps := 600000) (disch := omega) only [F16, ↓sy1, sy2, sy3, readOK, sy5, sy6, Nat.reduceEqDiff, ↓reduceIte, sy7, sy8, sy9, sya, oneOf, syb, syc, Nat.reduceAdd, Nat.reduceMul, syd, sye, syf, syg, syh, reduceCtorEq, show ¬ ((size : Int) < 1) from by omega, decide_false]
  refine call0 (sectors_spec h) ?_
  rintro _ w0 ⟨rfl, rfl⟩
  simp (maxSteps := 600000) (disch := omega) only [↓sy1, sy2, sy3, readOK, sy5, sy6, Nat.reduceEqDiff, ↓reduceIte, sy7, sy8, sy9, sya, oneOf, syb, syc, Nat.reduceAdd, Nat.reduceMul, syd, sye, syf, syg, syh, reduceCtorEq, show ¬ ((D.first.length : Int) - 2 < (size : Int)) from by omega, decide_false]
  refine call0 (fork_spec κ' h) ?_
  rintro _ w1 ⟨p', G1, rfl, hp1, hd1, hx1⟩
  have hcp : isCell (.pointer (some ⟨p', 0, none⟩)) = true := rfl
  have hg2 : Grow w1 (w1.alloc (.cells #[.pointer (some ⟨p', 0, none⟩), .int .i64 size, .int .i64 0] 83)) := (Keep.refl _ _).alloc _
  have hb2 := heap_alloc_new w1 (.cells #[.pointer (some ⟨p', 0, none⟩), .int .i64 size, .int .i64 0] 83)
  generalize hw2 : w1.alloc (.cells #[.pointer (some ⟨p', 0, none⟩), .int .i64 size, .int .i64 0] 83) = w2 at hg2 hb2
  simp (maxSteps := 600000) (disch := omega) only [↓sy1, sy2, sy3, readOK, sy5, sy6, Nat.reduceEqDiff, ↓reduceIte, sy7, sy8, sy9, sya, oneOf, syb, syc, Nat.reduceAdd, Nat.reduceMul, syd, sye, syf, syg, syh, reduceCtorEq, oneF_cell hcp, fill_gen, fillF_log (a := .pointer none) (b := .int .i64 0) (c := .int .i64 0) hcp (show isCell (.int .i64 (size : Int)) = true from rfl), agg3_cells hcp (show isCell (.int .i64 (size : Int)) = true from rfl) (show isCell (.int .i64 0) = true from rfl), hw2]
  have hq1 : w0.heap.size ≤ w1.heap.size := hx1.size
  have hx2 : Ext0 G1 w1 (G1.new w1.heap.size) w2 := .newB hg2
  have hno : ∀ b, w1.heap.size ≤ b → (G1.new w1.heap.size).own b = 0 ∧ (G1.new w1.heap.size).fix b = 0 := fun b hb => ⟨Gh.new_own hb, by simp [Gh.upto, Nat.not_lt.2 hb]⟩
  have hd2 := hd1.ext hx2 id
  have hlog : LogAt (G1.new w1.heap.size) κ' w2 w1.heap.size size 0 D := ⟨hκ, h1, h2, (hno _ (Nat.le_refl _)).1, p', hb2, hd2⟩
  refine call0 (headg_spec hlog) ?_
  rintro v w3 ⟨hv, hg3⟩
  have hg13 := hg2.trans hg3
  have hx13 : Ext0 G w0 (G1.new w1.heap.size) w3 := hx1.trans (.newB hg13)
  cases hh : D.head size with
  | none =>
    rw [hh] at hv
    obtain rfl := hv
    rw [opened_none hh]
    simp (maxSteps := 600000) (disch := omega) only [↓sy1, sy2, sy3, readOK, sy5, sy6, Nat.reduceEqDiff, ↓reduceIte, sy7, sy8, sy9, sya, oneOf, syb, syc, Nat.reduceAdd, Nat.reduceMul, syd, sye, syf, syg, syh, reduceCtorEq]
    exact R_out ⟨rfl, hx13.growG⟩
  | some ns =>
    rw [hh] at hv
    obtain ⟨u, rfl, hu⟩ := hv
    obtain ⟨k1, k2, k3⟩ := pairsOf_ok hok hh h2
    rw [pairsOf_length] at k1
    have hlu : ∀ w3, lenF w3 0 u = some (.int .i64 ns.length) := fun w3 => by rw [(Has.own hu).lenI]; simp
    have hb3 := hg3.gheap hb2
    obtain ⟨w4, hst, hb4, hk4⟩ := cell_store hb3 (i := 2) (by simp) (u := .int .i64 ns.length) rfl
    have hb4' : w4.heap[w1.heap.size]? = some (.cells #[.pointer (some ⟨p', 0, none⟩), .int .i64 size, .int .i64 ns.length] 83 (0, 0)) := by simpa using hb4
    have hc4 : w4.cell? ⟨w1.heap.size, 2, none⟩ = some (.int .i64 ns.length) := by rw [cell_block hb4']; rfl
    have hg14 : Grow w1 w4 := hg13.then hk4 (fun b hb h => by omega)
    have hx4 : Ext (fun c => c = 0) (G1.new w1.heap.size) w3 (G1.new w1.heap.size) w4 := .on0 hk4 (hno _ (Nat.le_refl _)).1 (hno _ (Nat.le_refl _)).2
    have hd4 := (hd2.grow hg3).ext hx4 hκ
    have hlog4 : LogAt (G1.new w1.heap.size) κ' w4 w1.heap.size size ns.length D := ⟨hκ, h1, h2, (hno _ (Nat.le_refl _)).1, p', hb4', hd4⟩
    have hxw : Ext0 G w0 (G1.new w1.heap.size) w4 := hx1.trans (.newB hg14)
    by_cases hne : ns = []
    · subst hne
      rw [opened_nil hh]
      have hlu0 : ∀ w3, lenF w3 0 u = some (.int .i64 0) := hlu
      have hst0 : stF w3 (.pointer (some ⟨w1.heap.size, 2, none⟩)) (.int .i64 0) = some (undef, w4) := hst
      have hc40 : w4.cell? ⟨w1.heap.size, 2, none⟩ = some (.int .i64 0) := hc4
      simp (maxSteps := 600000) (disch := omega) only [↓sy1, sy2, sy3, readOK, sy5, sy6, Nat.reduceEqDiff, ↓reduceIte, sy7, sy8, sy9, sya, oneOf, syb, syc, Nat.reduceAdd, Nat.reduceMul, syd, sye, syf, syg, syh, reduceCtorEq, hlu0, hst0, hc40, show ¬ ((0 : Int) < 0) from by omega, decide_false]
      exact R_out ⟨w1.heap.size, G1.new w1.heap.size, rfl, hq1, hlog4, hxw.mono (fun _ h => h.elim)⟩
    · rw [opened_some hh hne]
      have hpos : 0 < ns.length := List.length_pos_iff.2 hne
      simp (maxSteps := 600000) (disch := omega) only [↓sy1, sy2, sy3, readOK, sy5, sy6, Nat.reduceEqDiff, ↓reduceIte, sy7, sy8, sy9, sya, oneOf, syb, syc, Nat.reduceAdd, Nat.reduceMul, syd, sye, syf, syg, syh, reduceCtorEq, hlu, hst, hc4, show ((0 : Int) < (ns.length : Int)) from by omega, decide_true]
      have hug : HasI w4 u (zs ns) := (Has.own hu).keep hk4 (fun b hb _ hbq => by
        have hbl := (World.ownsRow.lt hu b hb).1
        have := (Array.getElem?_eq_some_iff.1 hb2).1
        omega)
      have hheld : Held (G1.new w1.heap.size) κ' w4 u (ints (zs ((pairsOf D ns).map (·.1)))) := by
        rw [pairsOf_fst]
        refine ⟨hug, fun b hb _ => ?_⟩
        obtain ⟨hbb, hbl⟩ := World.ownsRow.lt hu b hb
        exact ⟨Nat.lt_of_lt_of_le hbl hk4.size, by rw [(hno b (Nat.le_trans hg2.size hbb)).1]; exact fun h => hκ h.symm⟩
      refine call0 (home_spec hlog4 hheld (by rw [pairsOf_length]; exact k1) k2 k3 (by rw [pairsOf_length]; omega)) ?_
      rintro _ w5 ⟨G5, hlog5, hx5⟩
      simp (maxSteps := 600000) (disch := omega) only [↓sy1, sy2, sy3, readOK, sy5, sy6, Nat.reduceEqDiff, ↓reduceIte, sy7, sy8, sy9, sya, oneOf, syb, syc, Nat.reduceAdd, Nat.reduceMul, syd, sye, syf, syg, syh, reduceCtorEq]
      exact R_out ⟨w1.heap.size, G5, rfl, hq1, hlog5, (hxw.mono (fun _ h => h.elim)).trans hx5⟩
end Go.Proofs.Ytneehlkofcdhoaa

/- What a crash leaves of a log's disk, in plain words: behind it all pages are as ahead of the group, or as behind it. -/
namespace Go.Proofs.Ytneehlkofcdhoaa
open Go
abbrev Img := List (List UInt8)
/-- What an image tells when a log is opened over it. -/
def Tells (size : Nat) (img P : Img) : Prop := ∃ ns, headOf (min size 100) (img.length - size - 1) (img.getD 0 []) = some ns ∧ P.length = img.length - size - 1 ∧
  (∀ i (h : i < ns.length), P[ns[i]]? = img[1 + i]?) ∧ ∀ s, s < P.length → s ∉ ns → P[s]? = img[size + 1 + s]?
/-- An image, some writes done. -/
def After (W : List DOp) (s img : Img) : Prop := img.length = s.length ∧ ∀ i : Nat, img[i]? = s[i]? ∨ ∃ b, DOp.wr i b ∈ W ∧ img[i]? = some b
theorem After.mono {W W' : List DOp} {s img : Img} (h : After W s img) (hs : ∀ o ∈ W, o ∈ W') : After W' s img :=
  ⟨h.1, fun i => (h.2 i).imp id (fun ⟨b, h1, h2⟩ => ⟨b, hs _ h1, h2⟩)⟩
theorem After.none {W : List DOp} {s img : Img} (h : After W s img) {i : Nat} (hi : ∀ b, DOp.wr i b ∉ W) : img[i]? = s[i]? := by
  rcases h.2 i with h | ⟨b, h1, _⟩
  · exact h
  · exact absurd h1 (hi b)
theorem image_after : ∀ (W : List DOp) (D : Dsk), After W D.image (adds D W).image
  | [], D => ⟨rfl, fun i => .inl rfl⟩
  | o :: W, D => by
    obtain ⟨h1, h2⟩ := image_after W (D.add o)
    rw [adds_cons]
    cases o with
    | fl =>
      rw [Dsk.image_fl] at h1 h2
      exact ⟨h1, fun i => (h2 i).imp id (fun ⟨b, h3, h4⟩ => ⟨b, by simp [h3], h4⟩)⟩
    | wr n b =>
      rw [Dsk.image_wr] at h1 h2
      refine ⟨by rw [h1, List.length_set], fun i => ?_⟩
      rcases h2 i with h3 | ⟨c, h3, h4⟩
      · by_cases hin : n = i
        · subst hin
          by_cases hl : n < D.image.length
          · exact .inr ⟨b, by simp, by rw [h3, List.getElem?_set_self hl]⟩
          · left; rw [h3, List.getElem?_eq_none (by rw [List.length_set]; omega), List.getElem?_eq_none (by omega)]
        · left; rw [h3, List.getElem?_set_ne hin]
      · exact .inr ⟨c, by simp [h3], h4⟩
theorem crash_any {D : Dsk} {ks : List Int} (hok : D.Ok) (hk : D.may ks) (i : Nat) : (D.crash (ks.map Int.toNat)).image[i]? = D.safe[i]? ∨ ∃ b ∈ D.wait i, (D.crash (ks.map Int.toNat)).image[i]? = some b := by
  rw [D.crash_image]
  by_cases hi : ∃ j, ∃ (h : j < D.waiting.length) (_ : j < ks.length), D.waiting[j] = i
  · obtain ⟨j, h1, h2, rfl⟩ := hi
    have hw := (Dsk.mem_waiting hok).1 (List.getElem_mem h1)
    have h3 := crashed_at D.wait D.waiting (ks.map Int.toNat) D.safe j h1 (by simpa using h2) D.waiting_nodup (by rw [D.safe_length]; exact hok.waits hw)
    obtain ⟨h4, h5⟩ := hk.2 j h2 h1
    rw [h3, List.getElem_map]
    by_cases h0 : ks[j].toNat = 0
    · rw [if_pos h0]; exact .inl rfl
    · rw [if_neg h0]
      have hlt : ks[j].toNat - 1 < (D.wait D.waiting[j]).length := by omega
      right
      exact ⟨_, List.getElem_mem hlt, by rw [List.getElem?_eq_getElem hlt]; rfl⟩
  · left
    exact crashed_other _ _ _ _ _ (fun j h1 h2 he => absurd ⟨j, h1, by simpa using h2, he⟩ hi)
def Writes (W : List DOp) : Prop := ∀ o ∈ W, ∃ n b, o = DOp.wr n b
theorem writes_st : ∀ (W : List DOp) (D : Dsk), Writes W → (adds D W).safe = D.safe ∧ ∀ i b, b ∈ (adds D W).wait i → b ∈ D.wait i ∨ DOp.wr i b ∈ W
  | [], D, _ => ⟨rfl, fun i b h => .inl h⟩
  | o :: W, D, hW => by
    obtain ⟨n, c, rfl⟩ := hW o (by simp)
    obtain ⟨h1, h2⟩ := writes_st W (D.add (.wr n c)) (fun o ho => hW o (by simp [ho]))
    rw [adds_cons]
    refine ⟨h1.trans (D.safe_wr n c), fun i b hb => ?_⟩
    rcases h2 i b hb with h | h
    · rw [D.wait_wr] at h
      by_cases hi : i = n
      · subst hi
        simp only [if_true, List.mem_append, List.mem_singleton] at h
        rcases h with h | rfl
        · exact .inl h
        · exact .inr (by simp)
      · simp only [if_neg hi] at h; exact .inl h
    · exact .inr (by simp [h])
theorem Flat.image {D : Dsk} (h : Flat D) : D.image = D.safe := by
  unfold Dsk.image; rw [h]
  exact flushed_none _
theorem flat_fl (D : Dsk) : Flat (D.add .fl) := D.wait_fl
theorem crash_after {D : Dsk} {W : List DOp} {ks : List Int} (hf : Flat D) (hW : Writes W) (hok : (adds D W).Ok) (hk : (adds D W).may ks) : After W D.image ((adds D W).crash (ks.map Int.toNat)).image := by
  obtain ⟨h1, h2⟩ := writes_st W D hW
  refine ⟨by rw [Dsk.crash_length, adds_first, D.image_length], fun i => ?_⟩
  rcases crash_any hok hk i with h | ⟨b, hb, h⟩
  · left; rw [h, h1, hf.image]
  · right
    rcases h2 i b hb with h3 | h3
    · rw [hf] at h3; simp at h3
    · exact ⟨b, h3, h⟩
theorem adds_eq (D : Dsk) (l : List DOp) : adds D l = ⟨D.first, D.ops ++ l⟩ := by
  have h1 := adds_first D l
  have h2 := adds_ops D l
  generalize adds D l = E at h1 h2
  cases E; simp only at h1 h2; subst h1; subst h2; rfl
theorem adds_cut (D : Dsk) (l : List DOp) (j : Nat) : (adds D l).cut (D.ops.length + j) = adds D (l.take j) := by
  rw [adds_eq, adds_eq, Dsk.cut]
  simp [List.take_append, List.take_of_length_le]
theorem adds_cut_le (D : Dsk) (l : List DOp) {k : Nat} (h : k ≤ D.ops.length) : (adds D l).cut k = D.cut k := by
  rw [adds_eq, Dsk.cut, Dsk.cut]
  simp [List.take_append, Nat.sub_eq_zero_of_le h]
/-- Where a list of operations is cut. -/
theorem take_fl (A rest : List DOp) (j : Nat) : (j ≤ A.length ∧ (A ++ .fl :: rest).take j = A.take j) ∨ ∃ i, j = A.length + 1 + i ∧ (A ++ .fl :: rest).take j = A ++ .fl :: rest.take i := by
  by_cases h : j ≤ A.length
  · exact .inl ⟨h, by rw [List.take_append_of_le_length h]⟩
  · right
    refine ⟨j - A.length - 1, by omega, ?_⟩
    rw [List.take_append, List.take_of_length_le (by omega), show j - A.length = (j - A.length - 1) + 1 from by omega, List.take_succ_cons]
    simp
theorem tells_get {size : Nat} {img : Img} {i : Nat} (h : i < img.length) : img[i]? = some (img.getD i []) := by
  rw [List.getD_eq_getElem?_getD, List.getElem?_eq_getElem h]; rfl
theorem getD_of {img img' : Img} {i : Nat} (h : img[i]? = img'[i]?) : img.getD i [] = img'.getD i [] := by
  rw [List.getD_eq_getElem?_getD, List.getD_eq_getElem?_getD, h]
section home
variable {size : Nat} {D : Dsk} {ns : List Nat} {P : Img}
theorem home_writes (ps : List (Nat × List UInt8)) : Writes (homeOps size ps) := fun o ho => by
  obtain ⟨p, _, rfl⟩ := List.mem_map.1 ho; exact ⟨_, _, rfl⟩
theorem home_mem {ps : List (Nat × List UInt8)} {i : Nat} {b : List UInt8} (h : DOp.wr i b ∈ homeOps size ps) : ∃ n ∈ ps.map (·.1), i = size + 1 + n := by
  obtain ⟨p, hp, he⟩ := List.mem_map.1 h
  cases he; exact ⟨p.1, List.mem_map.2 ⟨p, hp, rfl⟩, rfl⟩
/-- What is told, of a head that names pages. -/
def Told (size : Nat) (img : Img) (ns : List Nat) (P : Img) : Prop := headOf (min size 100) (img.length - size - 1) (img.getD 0 []) = some ns ∧ P.length = img.length - size - 1 ∧
  (∀ i (h : i < ns.length), P[ns[i]]? = img[1 + i]?) ∧ ∀ s, s < P.length → s ∉ ns → P[s]? = img[size + 1 + s]?
theorem Told.tells {img : Img} (h : Told size img ns P) : Tells size img P := ⟨ns, h⟩
theorem Told.len {img : Img} (h : Told size img ns P) : ns.length ≤ size ∧ ns.length ≤ 100 := by
  have := (headOf_good h.1).2; omega
theorem told_after {img : Img} (h : Told size D.image ns P) (ha : After (homeOps size (pairsOf D ns)) D.image img) : Told size img ns P := by
  have hl := h.len
  obtain ⟨h1, h2, h3, h4⟩ := h
  have h0 : img[0]? = D.image[0]? := ha.none (fun b hb => by
    obtain ⟨n, _, hn⟩ := home_mem hb; omega)
  refine ⟨by rw [ha.1, getD_of h0]; exact h1, by rw [ha.1]; exact h2, fun i hi => ?_, fun s hs hsn => ?_⟩
  · rw [h3 i hi]
    exact (ha.none (fun b hb => by obtain ⟨n, _, hn⟩ := home_mem hb; omega)).symm
  · rw [h4 s hs hsn]
    exact (ha.none (fun b hb => by
      obtain ⟨n, hm, hn⟩ := home_mem hb
      rw [pairsOf_fst] at hm
      exact hsn (by rw [show s = n from by omega]; exact hm))).symm
theorem home_full (h : Told size D.image ns P) (hsz : size + 2 ≤ D.first.length) {s : Nat} (hs : s < P.length) : (adds D (homeOps size (pairsOf D ns))).image[size + 1 + s]? = P[s]? := by
  have hl := h.len
  obtain ⟨h1, h2, h3, h4⟩ := h
  obtain ⟨hr, hp⟩ := (headOf_good h1).1
  rw [D.image_length] at h2 hp
  by_cases hm : s ∈ ns
  · obtain ⟨i, hi, rfl⟩ := List.getElem_of_mem hm
    have hq : (ns[i], D.image.getD (1 + i) []) ∈ pairsOf D ns := by
      rw [← pairsOf_get D ns (i := i) (by rw [pairsOf_length]; exact hi)]; exact List.getElem_mem _
    rw [image_home size _ D (by rw [pairsOf_fst]; exact nodup_lt hr) (fun p hp' => ?_) _ hq, h3 i hi]
    · exact (tells_get (size := 0) (by rw [D.image_length]; omega)).symm
    · have : p.1 ∈ ns := by rw [← pairsOf_fst D ns]; exact List.mem_map.2 ⟨p, hp', rfl⟩
      have := hp _ this; omega
  · rw [image_home_other size _ _ D (fun p hp' he => hm ?_)]
    · exact (h4 s hs hm).symm
    · have : p.1 ∈ ns := by rw [← pairsOf_fst D ns]; exact List.mem_map.2 ⟨p, hp', rfl⟩
      rw [show s = p.1 from by omega]; exact this
theorem headB_nil {cap pages : Nat} (hc : cap ≤ 100) (hp : pages ≤ 65536) : headOf cap pages (headB []) = some [] := headOf_headB hc (Nat.zero_le _) hp (goodN_nil _)
theorem tells_empty {img : Img} (h : Told size D.image ns P) (hok : D.Ok) (hsz : size + 2 ≤ D.first.length) (ha : After [.wr 0 (headB [])] (adds D (homeOps size (pairsOf D ns))).image img) : Tells size img P := by
  have him := image_after (homeOps size (pairsOf D ns)) D
  rcases ha.2 0 with h0 | ⟨b, hb, h0⟩
  · have heq : img = (adds D (homeOps size (pairsOf D ns))).image := List.ext_getElem? fun i => by
      by_cases hi : i = 0
      · subst hi; exact h0
      · exact ha.none (fun b hb => by simp only [List.mem_singleton, DOp.wr.injEq] at hb; exact hi hb.1)
    rw [heq]
    exact (told_after h him).tells
  · simp only [List.mem_singleton, DOp.wr.injEq, true_and] at hb
    subst hb
    have hlen : img.length = D.first.length := by rw [ha.1, Dsk.image_length, adds_first]
    have hP := h.2.1
    rw [D.image_length] at hP
    have hmost := hok.most
    refine ⟨[], by rw [List.getD_eq_getElem?_getD, h0]; exact headB_nil (by omega) (by omega), by rw [hlen]; exact hP, fun i hi => by simp at hi, fun s hs _ => ?_⟩
    rw [← home_full h hsz hs]
    exact (ha.none (fun b hb => by simp only [List.mem_singleton, DOp.wr.injEq] at hb; omega)).symm
/-- What brings pages home. -/
def homeT (size : Nat) (ps : List (Nat × List UInt8)) : List DOp := homeOps size ps ++ [.fl, .wr 0 (headB []), .fl]
theorem homed_adds (size : Nat) (D : Dsk) (ps : List (Nat × List UInt8)) : homed size D ps = adds D (homeT size ps) := by
  rw [homeT, adds_append]; rfl
theorem After.eq {s img : Img} (h : After [] s img) : img = s := List.ext_getElem? fun i => h.none (fun b hb => by simp at hb)
theorem crash_home (hf : Flat D) (h : Told size D.image ns P) (hok : D.Ok) (hsz : size + 2 ≤ D.first.length) (j : Nat) (ks : List Int) (hokj : (adds D ((homeT size (pairsOf D ns)).take j)).Ok) (hk : (adds D ((homeT size (pairsOf D ns)).take j)).may ks) :
    Tells size ((adds D ((homeT size (pairsOf D ns)).take j)).crash (ks.map Int.toNat)).image P := by
  have hw1 : Writes [.wr 0 (headB [])] := fun o ho => ⟨_, _, List.mem_singleton.1 ho⟩
  rcases take_fl (homeOps size (pairsOf D ns)) [.wr 0 (headB []), .fl] j with ⟨hj, ht⟩ | ⟨i, hj, ht⟩
  · rw [show homeT size (pairsOf D ns) = homeOps size (pairsOf D ns) ++ .fl :: [.wr 0 (headB []), .fl] from rfl] at hokj hk ⊢
    rw [ht] at hokj hk ⊢
    exact (told_after h ((crash_after hf (fun o ho => home_writes _ o (List.mem_of_mem_take ho)) hokj hk).mono (fun o ho => List.mem_of_mem_take ho))).tells
  · rw [show homeT size (pairsOf D ns) = homeOps size (pairsOf D ns) ++ .fl :: [.wr 0 (headB []), .fl] from rfl] at hokj hk ⊢
    rw [ht, adds_append, adds_cons] at hokj hk ⊢
    have hf1 : Flat ((adds D (homeOps size (pairsOf D ns))).add .fl) := flat_fl _
    have hi1 : ((adds D (homeOps size (pairsOf D ns))).add .fl).image = (adds D (homeOps size (pairsOf D ns))).image := Dsk.image_fl _
    match i, hokj, hk with
    | 0, hokj, hk =>
      have := crash_after (W := []) hf1 (fun o ho => by simp at ho) hokj hk
      have he := this.eq
      rw [List.take_zero, he, hi1]
      exact (told_after h (image_after _ D)).tells
    | 1, hokj, hk =>
      have := crash_after (W := [.wr 0 (headB [])]) hf1 hw1 hokj hk
      rw [hi1] at this
      exact tells_empty h hok hsz this
    | i + 2, hokj, hk =>
      have ht2 : ([.wr 0 (headB []), .fl] : List DOp).take (i + 2) = [.wr 0 (headB []), .fl] := List.take_of_length_le (by simp)
      rw [ht2] at hokj hk ⊢
      rw [adds_cons, adds_cons, adds_nil] at hokj hk ⊢
      have := crash_after (W := []) (flat_fl (((adds D (homeOps size (pairsOf D ns))).add .fl).add (.wr 0 (headB [])))) (fun o ho => by simp at ho) hokj hk
      have he := this.eq
      rw [adds_nil] at he
      rw [he, Dsk.image_fl]
      refine tells_empty h hok hsz ?_
      have := image_after [.wr 0 (headB [])] ((adds D (homeOps size (pairsOf D ns))).add .fl)
      rw [hi1] at this
      exact this
end home
theorem copy_writes : ∀ (ps : List (Nat × List UInt8)) (k : Nat), Writes (copyOps k ps)
  | [], _ => fun o ho => by simp [copyOps] at ho
  | p :: ps, k => fun o ho => by
    rw [copyOps] at ho
    rcases List.mem_cons.1 ho with rfl | ho
    · exact ⟨_, _, rfl⟩
    · exact copy_writes ps (k + 1) o ho
theorem copy_mem : ∀ (ps : List (Nat × List UInt8)) (k : Nat) {i : Nat} {b : List UInt8}, DOp.wr i b ∈ copyOps k ps → 1 + k ≤ i ∧ i < 1 + k + ps.length
  | [], _, _, _, h => by simp [copyOps] at h
  | p :: ps, k, i, b, h => by
    rw [copyOps] at h
    rcases List.mem_cons.1 h with h | h
    · cases h; simp
    · have := copy_mem ps (k + 1) h; simp; omega
/-- The pages. -/
def pg (size : Nat) (D : Dsk) : Img := D.image.drop (size + 1)
theorem pg_length (size : Nat) (D : Dsk) : (pg size D).length = D.first.length - size - 1 := by simp [pg, D.image_length]; omega
theorem pg_get (size : Nat) (D : Dsk) (s : Nat) : (pg size D)[s]? = D.image[size + 1 + s]? := by rw [pg, List.getElem?_drop]
theorem calm_head {D : Dsk} (h : Calm D) {cap pages : Nat} (hc : cap ≤ 100) (hp : pages ≤ 65536) : headOf cap pages (D.image.getD 0 []) = some [] := by
  rw [List.getD_eq_getElem?_getD]
  rcases h with h | h <;> rw [h]
  · exact headOf_zsec _ _
  · exact headB_nil hc hp
theorem calm_tells {size : Nat} {D : Dsk} {img : Img} (h : Calm D) (hok : D.Ok) (hl : img.length = D.image.length) (h0 : img[0]? = D.image[0]?) (hp : ∀ s, img[size + 1 + s]? = D.image[size + 1 + s]?) : Tells size img (pg size D) := by
  have hmost := hok.most
  have hil := D.image_length
  refine ⟨[], by rw [getD_of h0]; exact calm_head h (by omega) (by omega), by rw [pg_length, hl, hil], fun i hi => by simp at hi, fun s _ _ => by rw [pg_get, hp]⟩
section group
variable {size : Nat} {D : Dsk} {ps : List (Nat × List UInt8)}
/-- A group that may be. -/
structure GroupOk (size : Nat) (D : Dsk) (ps : List (Nat × List UInt8)) : Prop where
  rise : (ps.map (·.1)).Pairwise (· < ·)
  lt : ∀ p ∈ ps, p.1 < D.first.length - size - 1
  len : ps.length ≤ min size 100
  b512 : ∀ p ∈ ps, p.2.length = 512
def headT (ps : List (Nat × List UInt8)) : List DOp := copyOps 0 ps ++ [.fl, .wr 0 (headB (ps.map (·.1))), .fl]
theorem groupOps_parts (size : Nat) (ps : List (Nat × List UInt8)) : groupOps size ps = headT ps ++ homeT size ps := by simp [groupOps, headT, homeT]
theorem told_head {img : Img} (hg : GroupOk size D ps) (hok : D.Ok) (hsz : size + 2 ≤ D.first.length) (hl : img.length = D.first.length) (h0 : img[0]? = some (headB (ps.map (·.1)))) (hi : ∀ i, i ≠ 0 → img[i]? = (adds D (copyOps 0 ps)).image[i]?) : Told size img (ps.map (·.1)) (pg size (grouped size D ps)) := by
  have hmost := hok.most
  have hlen := hg.len
  refine ⟨?_, by rw [pg_length, grouped_first, hl], fun i hi' => ?_, fun s hs hsn => ?_⟩
  · rw [List.getD_eq_getElem?_getD, h0]
    exact headOf_headB (by omega) (by simpa using hlen) (by omega) ⟨hg.rise, fun n hn => by obtain ⟨p, hp, rfl⟩ := List.mem_map.1 hn; rw [hl]; exact hg.lt p hp⟩
  · have hi2 : i < ps.length := by simpa using hi'
    rw [hi (1 + i) (by omega), List.getElem_map, pg_get]
    have h1 := grouped_page (size := size) (D := D) (ps := ps) (nodup_lt hg.rise) (fun p hp => by have := hg.lt p hp; omega) (List.getElem_mem hi2)
    have h2 := image_copied ps 0 D i hi2 (by omega)
    rw [show 1 + 0 + i = 1 + i from by omega] at h2
    rw [h1, h2]
  · rw [pg_get, hi (size + 1 + s) (by omega), grouped_other (by omega) (by omega) (fun p hp he => hsn (List.mem_map.2 ⟨p, hp, by omega⟩)), image_copy _ ps 0 D (by omega)]
theorem crash_group (hg : GroupOk size D ps) (hf : Flat D) (hc : Calm D) (hok : D.Ok) (hsz : size + 2 ≤ D.first.length) (j : Nat) (ks : List Int) (hokj : (adds D ((groupOps size ps).take j)).Ok) (hk : (adds D ((groupOps size ps).take j)).may ks) :
    (Tells size ((adds D ((groupOps size ps).take j)).crash (ks.map Int.toNat)).image (pg size D) ∧ j < (groupOps size ps).length) ∨ (Tells size ((adds D ((groupOps size ps).take j)).crash (ks.map Int.toNat)).image (pg size (grouped size D ps)) ∧ j ≠ 0) := by
  have hgl := groupOps_length size ps
  have hlen := hg.len
  have hw1 : Writes [.wr 0 (headB (ps.map (·.1)))] := fun o ho => ⟨_, _, List.mem_singleton.1 ho⟩
  have hform : groupOps size ps = copyOps 0 ps ++ .fl :: (.wr 0 (headB (ps.map (·.1))) :: .fl :: homeT size ps) := by simp [groupOps, homeT]
  have hahead : ∀ {img : Img}, After (copyOps 0 ps) D.image img → Tells size img (pg size D) := fun {img} ha =>
    calm_tells hc hok ha.1 (ha.none (fun b hb => by have := copy_mem _ _ hb; omega)) (fun s => ha.none (fun b hb => by have := copy_mem _ _ hb; omega))
  have hf1 : Flat ((adds D (copyOps 0 ps)).add .fl) := flat_fl _
  have hi1 : ((adds D (copyOps 0 ps)).add .fl).image = (adds D (copyOps 0 ps)).image := Dsk.image_fl _
  have hlen1 : (adds D (copyOps 0 ps)).image.length = D.first.length := by rw [Dsk.image_length, adds_first]
  rw [hgl]
  rw [hform] at hokj hk ⊢
  rcases take_fl (copyOps 0 ps) (.wr 0 (headB (ps.map (·.1))) :: .fl :: homeT size ps) j with ⟨hj, ht⟩ | ⟨i, hj, ht⟩
  · rw [copyOps_length] at hj
    rw [ht] at hokj hk ⊢
    exact .inl ⟨hahead ((crash_after hf (fun o ho => copy_writes ps 0 o (List.mem_of_mem_take ho)) hokj hk).mono (fun o ho => List.mem_of_mem_take ho)), by omega⟩
  · rw [copyOps_length] at hj
    rw [ht, adds_append, adds_cons] at hokj hk ⊢
    match i, hj, hokj, hk with
    | 0, hj, hokj, hk =>
      have he := (crash_after (W := []) hf1 (fun o ho => by simp at ho) hokj hk).eq
      left
      rw [List.take_zero, he, hi1]
      exact ⟨hahead (image_after _ D), by omega⟩
    | 1, hj, hokj, hk =>
      have ht1 : (DOp.wr 0 (headB (ps.map (·.1))) :: DOp.fl :: homeT size ps).take 1 = [.wr 0 (headB (ps.map (·.1)))] := rfl
      rw [ht1] at hokj hk ⊢
      have ha := crash_after (D := (adds D (copyOps 0 ps)).add .fl) (W := [.wr 0 (headB (ps.map (·.1)))]) (ks := ks) hf1 hw1 (by exact hokj) (by exact hk)
      rw [hi1] at ha
      have hno : ∀ i, i ≠ 0 → _ := fun i hi => ha.none (i := i) (fun b hb => by simp only [List.mem_singleton, DOp.wr.injEq] at hb; exact hi hb.1)
      rcases ha.2 0 with h0 | ⟨b, hb, h0⟩
      · left
        refine ⟨?_, by omega⟩
        have heq : ((adds ((adds D (copyOps 0 ps)).add .fl) [.wr 0 (headB (ps.map (·.1)))]).crash (ks.map Int.toNat)).image = (adds D (copyOps 0 ps)).image := List.ext_getElem? fun i => by
          by_cases hi : i = 0
          · subst hi; exact h0
          · exact hno i hi
        rw [heq]
        exact hahead (image_after _ D)
      · right
        simp only [List.mem_singleton, DOp.wr.injEq, true_and] at hb
        subst hb
        exact ⟨(told_head hg hok hsz (by rw [ha.1]; exact hlen1) h0 hno).tells, by omega⟩
    | i + 2, hj, hokj, hk =>
      right
      refine ⟨?_, by omega⟩
      rw [List.take_succ_cons, List.take_succ_cons, adds_cons, adds_cons] at hokj hk ⊢
      have hf2 : Flat ((((adds D (copyOps 0 ps)).add .fl).add (.wr 0 (headB (ps.map (·.1))))).add .fl) := flat_fl _
      have hi2 : ((((adds D (copyOps 0 ps)).add .fl).add (.wr 0 (headB (ps.map (·.1))))).add .fl).image = (adds D (copyOps 0 ps)).image.set 0 (headB (ps.map (·.1))) := by rw [Dsk.image_fl, Dsk.image_wr, hi1]
      have hfst : ((((adds D (copyOps 0 ps)).add .fl).add (.wr 0 (headB (ps.map (·.1))))).add .fl).first = D.first := adds_first D (copyOps 0 ps)
      have hok2 : ((((adds D (copyOps 0 ps)).add .fl).add (.wr 0 (headB (ps.map (·.1))))).add .fl).Ok := by
        refine ⟨fun b hb => hok.rows b (by rw [← hfst]; exact hb), fun n b hm => ?_, by rw [hfst]; exact hok.some, by rw [hfst]; exact hok.most⟩
        have := hokj.ops n b (by rw [adds_ops]; exact List.mem_append_left _ hm)
        rw [adds_first] at this; exact this
      have htold : Told size ((((adds D (copyOps 0 ps)).add .fl).add (.wr 0 (headB (ps.map (·.1))))).add .fl).image (ps.map (·.1)) (pg size (grouped size D ps)) := by
        rw [hi2]
        exact told_head hg hok hsz (by rw [List.length_set]; exact hlen1) (List.getElem?_set_self (by rw [hlen1]; omega)) (fun i hi => List.getElem?_set_ne (fun h => hi h.symm))
      have hpairs : pairsOf ((((adds D (copyOps 0 ps)).add .fl).add (.wr 0 (headB (ps.map (·.1))))).add .fl) (ps.map (·.1)) = ps := by
        refine List.ext_getElem (by rw [pairsOf_length, List.length_map]) fun i h1 h2 => ?_
        rw [pairsOf_get, hi2, List.getD_eq_getElem?_getD, List.getElem?_set_ne (by omega)]
        have := image_copied ps 0 D i h2 (by omega)
        rw [show 1 + 0 + i = 1 + i from by omega] at this
        rw [this, List.getElem_map]; rfl
      have hsz2 : size + 2 ≤ ((((adds D (copyOps 0 ps)).add .fl).add (.wr 0 (headB (ps.map (·.1))))).add .fl).first.length := by rw [hfst]; exact hsz
      have := crash_home hf2 htold hok2 hsz2 i ks (by rw [hpairs]; exact hokj) (by rw [hpairs]; exact hk)
      rw [hpairs] at this
      exact this
end group
/-- Behind an opening. -/
theorem tells_opened {size : Nat} {D : Dsk} {P : Img} (hok : D.Ok) (hsz : size + 2 ≤ D.first.length) (h : Tells size D.image P) :
    ∃ ns E, D.head size = some ns ∧ Told size D.image ns P ∧ opened size D = some (E, ns.length) ∧ E = (if ns = [] then D else adds D (homeT size (pairsOf D ns))) ∧ lpages size E = P.take 100 := by
  obtain ⟨ns, ht⟩ := h
  have hP := ht.2.1
  have hh : D.head size = some ns := by
    unfold Dsk.head; rw [← D.image_length]; exact ht.1
  by_cases hn : ns = []
  · subst hn
    refine ⟨[], D, hh, ht, opened_nil hh, by rw [if_pos rfl], ?_⟩
    rw [lpages]
    congr 1
    refine List.ext_getElem? fun s => ?_
    rw [List.getElem?_drop]
    by_cases hs : s < P.length
    · exact (ht.2.2.2 s hs (by simp)).symm
    · rw [List.getElem?_eq_none (by omega), List.getElem?_eq_none (by omega)]
  · refine ⟨ns, _, hh, ht, opened_some hh hn, by rw [if_neg hn, homed_adds], ?_⟩
    rw [lpages]
    congr 1
    have himg : (homed size D (pairsOf D ns)).image = (adds D (homeOps size (pairsOf D ns))).image.set 0 (headB []) := by rw [homed, Dsk.image_fl, Dsk.image_wr, Dsk.image_fl]
    rw [himg]
    refine List.ext_getElem? fun s => ?_
    rw [List.getElem?_drop, List.getElem?_set_ne (by omega)]
    by_cases hs : s < P.length
    · exact home_full ht hsz hs
    · rw [List.getElem?_eq_none (by rw [Dsk.image_length, adds_first]; rw [D.image_length] at hP; omega), List.getElem?_eq_none (by omega)]
end Go.Proofs.Ytneehlkofcdhoaa

/- What a crash keeps; a disk that is cut, and crashed. -/
namespace Go.Proofs.Ytneehlkofcdhoaa
open Go
set_option linter.unusedSimpArgs false
open Go.RowKit (intOf)
theorem kept_spec {G : Gh} {κ : Nat} {w : World} {p : Nat} {D : Dsk} {cv : Value} {ch : List UInt8} (h : DiskAt G κ w p D) (hc : HasB w cv ch) :
    Calls Try.prog 70 #[.pointer (some ⟨p, 0, none⟩), cv] w (Ret fun v w' => ∃ ks : List Int, w'.ownsRow w.heap.size 3 1 v ks.length (ints ks) ∧ D.may ks ∧ Grow w w') := by
  have hmost := h.ok.most
  have hwl := D.waiting_length
  have hwr := D.writes_length
  have hol := h.2.1
  apply enter70
  apply R_in
  simp (maxSteps := 1000000) (disch := omega) only [↓sy1, sy2, sy3, readOK, sy5, sy6, Nat.reduceEqDiff, ↓reduceIte, sy7, sy8, sy9, sya, oneOf, syb, syc, Nat.reduceAdd, Nat.reduceMul, syd, sye, syf, syg, syh, reduceCtorEq, F70]
  refine call0 (waiting_spec h) ?_
  rintro _ w1 ⟨a, b, rfl, ha, hb, _, hg1⟩
  simp (maxSteps := 1000000) (disch := omega) only [↓sy1, sy2, sy3, readOK, sy5, sy6, Nat.reduceEqDiff, ↓reduceIte, sy7, sy8, sy9, sya, oneOf, syb, syc, Nat.reduceAdd, Nat.reduceMul, syd, sye, syf, syg, syh, reduceCtorEq]
  have hlenB : ∀ w', lenF w' 0 b = some (.int .i64 D.waiting.length) := fun w' => by rw [(Has.own hb).lenI]; simp [hwr]
  refine loop_rule (fun e w' => ∃ (i : Nat) (out : Value) (ks : List Int), i ≤ D.waiting.length ∧ e 8 = .int .i64 i ∧ e 7 = out ∧ e 6 = b ∧ e 1 = cv ∧ ks.length = i ∧ w'.ownsRow w1.heap.size 3 1 out i (ints ks) ∧
      (∀ j (h : j < ks.length) (h' : j < D.waiting.length), 0 ≤ ks[j] ∧ ks[j] ≤ ((D.wait D.waiting[j]).length : Int)) ∧ Grow w1 w') (fun e _ => D.waiting.length - (intOf (e 8)).toNat)
    ⟨0, .slice none 0 0, [], by omega, by simp [upd, updO, ev], by simp [upd, updO, ev], by simp [upd, updO, ev], by simp [upd, updO, ev], rfl, World.ownsRow_nil w1 _ _ _, fun j h => by simp at h, Keep.refl _ _⟩ ?_
  rintro e w4 ⟨i, out, ks, hi, e8, e7, e6, e1, hkl, hown, hgood, hg4⟩
  have hlenC : ∀ w', lenF w' 0 cv = some (.int .i64 ch.length) := fun w' => by rw [hc.lenB]
  have hszw := (hg1.trans hg4).size
  by_cases hlt : i < D.waiting.length
  · have stepG : ∀ kk : Int, 0 ≤ kk → kk ≤ ((D.wait D.waiting[i]).length : Int) → ∀ j (h : j < (ks ++ [kk]).length) (h' : j < D.waiting.length), 0 ≤ (ks ++ [kk])[j] ∧ (ks ++ [kk])[j] ≤ ((D.wait D.waiting[j]).length : Int) := by
      intro kk h1 h2 j h h'
      by_cases hj : j < ks.length
      · rw [List.getElem_append_left hj]; exact hgood j hj h'
      · have hji : j = i := by simp at h; omega
        subst hji
        rw [List.getElem_append_right (by omega)]; simp; omega
    by_cases hch : i < ch.length
    · simp (maxSteps := 1000000) (disch := omega) only [↓sy1, sy2, sy3, readOK, sy5, sy6, Nat.reduceEqDiff, ↓reduceIte, sy7, sy8, sy9, sya, oneOf, syb, syc, Nat.reduceAdd, Nat.reduceMul, syd, sye, syf, syg, syh, reduceCtorEq, F70_L0, e8, e7, e6, e1, hlenB, hlenC, Int.ofNat_lt, hlt, hch, decide_true]
      refine draw70_0 (fun _ => False) ?_
      have hgd : Grow w4 w4.drew := (Keep.refl _ _).drew
      have hc5 := ((hc.grow hg1).grow hg4).grow hgd
      have hb5 := ((Has.own hb).grow hg4).grow hgd
      have hown5 := own_grow hown hgd
      have hg5 := hg4.trans hgd
      generalize w4.drew = w5 at hc5 hb5 hown5 hg5 ⊢
      obtain ⟨ac, hac, hacc, _⟩ := hc5.getB hch
      obtain ⟨ab, hab, habc, _⟩ := hb5.getI (l := zs D.writes) (i := i) (by simp; omega)
      have hcb := ch[i].toNat_lt
      have hwi : (zs D.writes)[i]'(by simp; omega) = (((D.wait D.waiting[i]).length : Nat) : Int) := by simp [D.writes_get (i := i) (by omega) hlt]
      rw [hwi] at habc
      have hcap := D.wait_length D.waiting[i]
      have hsg := stepG (((ch[i].toNat % ((D.wait D.waiting[i]).length + 1) : Nat)) : Int) (by omega) (by have := Nat.mod_lt ch[i].toNat (show 0 < (D.wait D.waiting[i]).length + 1 by omega); omega)
      generalize ch[i].toNat = cc at hacc hcb hsg
      generalize (D.wait D.waiting[i]).length = ww at habc hcap hsg
      have hmod : (cc : Int).tmod ((ww : Int) + 1) = ((cc % (ww + 1) : Nat) : Int) := rfl
      simp (maxSteps := 1000000) (disch := omega) only [↓sy1, sy2, sy3, readOK, sy5, sy6, Nat.reduceEqDiff, ↓reduceIte, sy7, sy8, sy9, sya, oneOf, syb, syc, Nat.reduceAdd, Nat.reduceMul, syd, sye, syf, syg, syh, reduceCtorEq, PL70_0, e8, e7, e6, e1, hac, hacc, hab, habc, hmod]
      generalize cc % (ww + 1) = kk at hsg ⊢
      have hga : Grow w5 (w5.alloc (.cells #[.int .i64 (kk : Int)] 3)) := (Keep.refl _ _).alloc _
      refine app_own elemI (by simp only [upd_at, Nat.reduceEqDiff, reduceIte, ev_tmp, ev_const, List.map_cons, List.map_nil, e7]) (by simp only [upd_at, Nat.reduceEqDiff, reduceIte, ev_tmp, ev_const, List.map_cons, List.map_nil]) (own_grow hown5 hga) Has.new1 (m := 1) rfl (by simp [isCell]) (by omega) (by omega) (by have := hg5.size; have := hg1.size; simp; omega) ?_
      intro out' w6 ho6 hg6
      simp (maxSteps := 1000000) (disch := omega) only [↓sy1, sy2, sy3, readOK, sy5, sy6, Nat.reduceEqDiff, ↓reduceIte, sy7, sy8, sy9, sya, oneOf, syb, syc, Nat.reduceAdd, Nat.reduceMul, syd, sye, syf, syg, syh, reduceCtorEq, e8, e7, e6, e1]
      refine R_out ⟨⟨i + 1, out', ks ++ [(kk : Int)], by omega, rfl, rfl, by simp [hkl], by simpa [ints] using ho6, hsg, ?_⟩, ?_⟩
      · exact (hg5.trans hga).then (Keep.grown hg6) (fun b hb h => by
          obtain ⟨hbb, _⟩ := World.ownsRow.lt hown5 b h.symm; omega)
      · simp only [intOf]; omega
    · have hsg := stepG 0 (by omega) (by omega)
      simp (maxSteps := 1000000) (disch := omega) only [↓sy1, sy2, sy3, readOK, sy5, sy6, Nat.reduceEqDiff, ↓reduceIte, sy7, sy8, sy9, sya, oneOf, syb, syc, Nat.reduceAdd, Nat.reduceMul, syd, sye, syf, syg, syh, reduceCtorEq, F70_L0, e8, e7, e6, e1, hlenB, hlenC, Int.ofNat_lt, hlt, hch, decide_true, decide_false]
      have hga : Grow w4 (w4.alloc (.cells #[.int .i64 0] 3)) := (Keep.refl _ _).alloc _
      refine app_own elemI (by simp only [upd_at, Nat.reduceEqDiff, reduceIte, ev_tmp, ev_const, List.map_cons, List.map_nil, e7]) (by simp only [upd_at, Nat.reduceEqDiff, reduceIte, ev_tmp, ev_const, List.map_cons, List.map_nil]) (own_grow hown hga) Has.new1 (m := 1) rfl (by simp [isCell]) (by omega) (by omega) (by have := hg4.size; simp; omega) ?_
      intro out' w6 ho6 hg6
      simp (maxSteps := 1000000) (disch := omega) only [↓sy1, sy2, sy3, readOK, sy5, sy6, Nat.reduceEqDiff, ↓reduceIte, sy7, sy8, sy9, sya, oneOf, syb, syc, Nat.reduceAdd, Nat.reduceMul, syd, sye, syf, syg, syh, reduceCtorEq, e8, e7, e6, e1]
      refine R_out ⟨⟨i + 1, out', ks ++ [0], by omega, rfl, rfl, by simp [hkl], by simpa [ints] using ho6, hsg, ?_⟩, ?_⟩
      · exact (hg4.trans hga).then (Keep.grown hg6) (fun b hb h => by
          obtain ⟨hbb, _⟩ := World.ownsRow.lt hown b h.symm; omega)
      · simp only [intOf]; omega
  · have hie : i = D.waiting.length := by omega
    subst hie
    simp (maxSteps := 1000000) (disch := omega) only [↓sy1, sy2, sy3, readOK, sy5, sy6, Nat.reduceEqDiff, ↓reduceIte, sy7, sy8, sy9, sya, oneOf, syb, syc, Nat.reduceAdd, Nat.reduceMul, syd, sye, syf, syg, syh, reduceCtorEq, F70_L0, e8, e7, e6, e1, hlenB, Int.ofNat_lt, hlt, decide_false]
    rw [← hkl] at hown
    exact R_out ⟨ks, own_base hown hg1.size, ⟨by omega, fun i h h' => hgood i h h'⟩, hg1.trans hg4⟩
/-- A row of rows in nobody's blocks. -/
def Zero (G : Gh) (w : World) (v : Value) (xs : List Value) : Prop := Has 1 w v xs ∧ ∀ b, v.ownBlock = some b → xs ≠ [] → b < w.heap.size ∧ G.own b = 0
theorem Zero.ext {K : Nat → Prop} {G G' : Gh} {w w' : World} {v : Value} {xs : List Value} (h : Zero G w v xs) (hx : Ext K G w G' w') (h0 : ¬ K 0) : Zero G' w' v xs := by
  refine ⟨h.1.keep hx.keep (fun b hb hne => by rw [(h.2 b hb hne).2]; exact h0), fun b hb hne => ?_⟩
  obtain ⟨h1, h2⟩ := h.2 b hb hne
  exact ⟨Nat.lt_of_lt_of_le h1 hx.size, by rw [hx.own b h1]; exact h2⟩
theorem Zero.own {B k : Nat} {t : TypeId} {w w' : World} {G : Gh} {v : Value} {xs : List Value} (h : w'.ownsRow B t 1 v k xs) (hB : w.heap.size ≤ B) : Zero (G.new w.heap.size) w' v xs :=
  ⟨Has.own h, fun b hb _ => ⟨(World.ownsRow.lt h b hb).2, Gh.new_own (Nat.le_trans hB (World.ownsRow.lt h b hb).1)⟩⟩
def ZRows (G : Gh) (w : World) : List Value → List (List UInt8) → Prop
  | [], [] => True
  | v :: vs, l :: ls => Zero G w v (bs l) ∧ ZRows G w vs ls
  | _, _ => False
theorem ZRows.ext {K : Nat → Prop} {G G' : Gh} {w w' : World} (hx : Ext K G w G' w') (h0 : ¬ K 0) : ∀ {vs : List Value} {ls : List (List UInt8)}, ZRows G w vs ls → ZRows G' w' vs ls
  | [], [], _ => trivial
  | _ :: _, _ :: _, ⟨h1, h2⟩ => ⟨h1.ext hx h0, ZRows.ext hx h0 h2⟩
theorem ZRows.rows {G : Gh} {w : World} : ∀ {vs : List Value} {ls : List (List UInt8)}, ZRows G w vs ls → Rows w vs ls
  | [], [], _ => trivial
  | _ :: _, _ :: _, ⟨h1, h2⟩ => ⟨h1.1, h2.rows⟩
theorem ZRows.own {B : Nat} {t : TypeId} {w w' : World} {G : Gh} (hB : w.heap.size ≤ B) : ∀ {vs : List Value} {ls : List (List UInt8)}, RowsO B t w' vs ls → ZRows (G.new w.heap.size) w' vs ls
  | [], [], _ => trivial
  | _ :: _, _ :: _, ⟨h1, h2⟩ => ⟨.own h1 hB, ZRows.own hB h2⟩
def ZeroR (G : Gh) (w : World) (v : Value) (ls : List (List UInt8)) : Prop := ∃ vs, Zero G w v vs ∧ ZRows G w vs ls
theorem ZeroR.ext {K : Nat → Prop} {G G' : Gh} {w w' : World} {v : Value} {ls : List (List UInt8)} (h : ZeroR G w v ls) (hx : Ext K G w G' w') (h0 : ¬ K 0) : ZeroR G' w' v ls := let ⟨vs, h1, h2⟩ := h; ⟨vs, h1.ext hx h0, h2.ext hx h0⟩
theorem ZeroR.has {G : Gh} {w : World} {v : Value} {ls : List (List UInt8)} (h : ZeroR G w v ls) : HasR w v ls := let ⟨vs, h1, h2⟩ := h; ⟨vs, h1.1, h2.rows⟩
theorem FreshR.zero {B : Nat} {tr t : TypeId} {G : Gh} {w w' : World} {v : Value} {ls : List (List UInt8)} (h : FreshR B tr t w' v ls) (hB : w.heap.size ≤ B) : ZeroR (G.new w.heap.size) w' v ls := let ⟨vs, h1, h2⟩ := h; ⟨vs, .own h1 hB, .own hB h2⟩
theorem crashed3_spec {G : Gh} {κ : Nat} {w : World} {p k : Nat} {D : Dsk} {cv : Value} {ch : List UInt8} (κ1 μ κ2 : Nat) (hκ : κ1 ≠ μ) (h0 : κ1 ≠ 0 ∧ μ ≠ 0) (hκc : κ ≠ κ1 ∧ κ ≠ μ) (h : DiskAt G κ w p D) (hc : HasB w cv ch) (hco : ∀ b, cv.ownBlock = some b → ch ≠ [] → G.own b ≠ κ1 ∧ G.own b ≠ μ) (hk : k ≤ D.ops.length) :
    Calls Try.prog 35 #[.pointer (some ⟨p, 0, none⟩), .int .i64 k, cv] w (Ret fun v w' => ∃ (q : Nat) (ks : List Int) (G' : Gh), v = .pointer (some ⟨q, 0, none⟩) ∧ w.heap.size ≤ q ∧ (D.cut k).Ok ∧ (D.cut k).may ks ∧ DiskAt G' κ2 w' q ((D.cut k).crash (ks.map Int.toNat)) ∧ Ext (fun c => c = κ1 ∨ c = μ) G w G' w') := by
  have hmost := h.ok.most
  apply enter35
  apply R_in
  simp (maxSteps := 1000000) (disch := omega) only [↓sy1, sy2, sy3, readOK, sy5, sy6, Nat.reduceEqDiff, ↓reduceIte, sy7, sy8, sy9, sya, oneOf, syb, syc, Nat.reduceAdd, Nat.reduceMul, syd, sye, syf, syg, syh, reduceCtorEq, F35]
  refine call0 (cut_spec κ1 μ hκ h hk) ?_
  rintro _ w1 ⟨q1, G1, rfl, hq1, hd1, hx1⟩
  have hc1 : HasB w1 cv ch := hc.keep hx1.keep (fun b hb hne => by
    have := hco b hb (fun h => hne (by rw [h]; rfl)); omega)
  simp (maxSteps := 1000000) (disch := omega) only [↓sy1, sy2, sy3, readOK, sy5, sy6, Nat.reduceEqDiff, ↓reduceIte, sy7, sy8, sy9, sya, oneOf, syb, syc, Nat.reduceAdd, Nat.reduceMul, syd, sye, syf, syg, syh, reduceCtorEq]
  refine call0 (kept_spec hd1 hc1) ?_
  rintro kv w2 ⟨ks, hkv, hmay, hg2⟩
  have hksl : ks.length ≤ 4096 := by
    have h1 := hmay.1
    have h2 := (D.cut k).waiting_length
    have h3 : (D.cut k).first.length = D.first.length := rfl
    omega
  simp (maxSteps := 1000000) (disch := omega) only [↓sy1, sy2, sy3, readOK, sy5, sy6, Nat.reduceEqDiff, ↓reduceIte, sy7, sy8, sy9, sya, oneOf, syb, syc, Nat.reduceAdd, Nat.reduceMul, syd, sye, syf, syg, syh, reduceCtorEq]
  refine call0 (crash_spec κ2 (hd1.grow hg2) (Has.own hkv) (by omega)) ?_
  rintro v w3 ⟨hgood, _⟩
  obtain ⟨p3, G3, rfl, hp3, hd3, hx3⟩ := hgood hmay
  simp (maxSteps := 1000000) (disch := omega) only [↓sy1, sy2, sy3, readOK, sy5, sy6, Nat.reduceEqDiff, ↓reduceIte, sy7, sy8, sy9, sya, oneOf, syb, syc, Nat.reduceAdd, Nat.reduceMul, syd, sye, syf, syg, syh, reduceCtorEq]
  have hsz := (hx1.trans (.grow hg2)).size
  exact R_out ⟨p3, ks, G3, rfl, by omega, hd1.ok, hmay, hd3, (hx1.trans (.grow hg2)).trans (hx3.mono (fun _ h => h.elim))⟩
end Go.Proofs.Ytneehlkofcdhoaa

/- WalCrashes: the walk. -/
namespace Go.Proofs.Ytneehlkofcdhoaa
open Go
set_option linter.unusedSimpArgs false
open Go.RowKit (intOf)
theorem cdone_cases (size : Nat) (D : Dsk) (ps : List Pg) : cdone size D ps = D ∨ (GroupOk size D (sortP ps) ∧ cdone size D ps = grouped size D (sortP ps)) := by
  by_cases h : ps ≠ [] ∧ ccode D.first.length size ps = 0
  · right
    obtain ⟨h1, h2, h3⟩ := ccode_ok h.2 h.1
    have h0 := anyOut_nonneg h2
    exact ⟨⟨sortP_rising h3.1 h0, sortP_lt h0 h2, by rw [sortP_length]; exact h1, sortP_bytes h0 h3.2⟩, cdone_ok rfl h.2 h.1⟩
  · left; unfold cdone; rw [if_neg h]
theorem Flat.cut {D : Dsk} (h : Flat D) : Flat (D.cut D.ops.length) := by rw [D.cut_all]; exact h
theorem crash_flat {D : Dsk} {ks : List Int} (hf : Flat D) (hok : D.Ok) (hk : D.may ks) : (D.crash (ks.map Int.toNat)).image = D.image := by
  have := crash_after (W := []) hf (fun o ho => by simp at ho) hok hk
  exact this.eq
/-- Behind a crash within a Commit. -/
theorem crash_commit {size : Nat} {D : Dsk} {ps : List Pg} {k : Nat} {ks : List Int} (hf : Flat D) (hc : Calm D) (hok : D.Ok) (hsz : size + 2 ≤ D.first.length) (h1 : D.ops.length ≤ k) (h2 : k ≤ (cdone size D ps).ops.length)
    (hok' : ((cdone size D ps).cut k).Ok) (hk : ((cdone size D ps).cut k).may ks) :
    (Tells size (((cdone size D ps).cut k).crash (ks.map Int.toNat)).image (pg size D) ∧ (k = (cdone size D ps).ops.length → pg size (cdone size D ps) = pg size D)) ∨
    (Tells size (((cdone size D ps).cut k).crash (ks.map Int.toNat)).image (pg size (cdone size D ps)) ∧ (k = D.ops.length → pg size (cdone size D ps) = pg size D)) := by
  rcases cdone_cases size D ps with h | ⟨hg, h⟩
  · rw [h] at h2 hok' hk ⊢
    have hkl : k = D.ops.length := by omega
    subst hkl
    rw [D.cut_all] at hok' hk ⊢
    left
    rw [crash_flat hf hok' hk]
    exact ⟨calm_tells hc hok rfl rfl (fun s => rfl), fun _ => rfl⟩
  · rw [h] at h2 hok' hk ⊢
    obtain ⟨j, rfl⟩ : ∃ j, k = D.ops.length + j := ⟨k - D.ops.length, by omega⟩
    have hcut : (grouped size D (sortP ps)).cut (D.ops.length + j) = adds D ((groupOps size (sortP ps)).take j) := adds_cut _ _ _
    rw [hcut] at hok' hk ⊢
    have hgo := grouped_ops size D (sortP ps)
    have hgl := groupOps_length size (sortP ps)
    rcases crash_group hg hf hc hok hsz j ks hok' hk with ⟨h3, h4⟩ | ⟨h3, h4⟩
    · left
      exact ⟨h3, fun h => by omega⟩
    · right
      exact ⟨h3, fun h => by omega⟩
theorem take_pg (size : Nat) (D : Dsk) : (pg size D).take 100 = lpages size D := rfl
set_option maxHeartbeats 4000000 in
theorem walCrashes_walk {w : World} {k : Nat} {lv cv : Value} {l : List Deed3} {ch : List UInt8} (hk : k < 65536) (hll : l.length ≤ 9223372036854775807) (hv : DeedsAt w lv l) (hcv : HasB w cv ch) :
    Calls Try.prog 9 #[lv, .int .u16 (k : Int), cv] w (Ret fun v w' => v = .bool true ∧ Grow w w') := by
  apply enter9
  apply R_in
  simp (maxSteps := 1000000) (disch := omega) only [↓sy1, sy2, sy3, readOK, sy5, sy6, Nat.reduceEqDiff, ↓reduceIte, sy7, sy8, sy9, sya, oneOf, syb, syc, Nat.reduceAdd, Nat.reduceMul, syd, sye, syf, syg, syh, reduceCtorEq, F9]
  refine call0 (lopen_spec (G := G00) (n := 20) (size := 8) 1 2 (by omega) (by omega) (by omega) (by omega) (by omega)) ?_
  rintro _ w1 ⟨q, r, G1, rfl, hq1, hl1, _, hx1⟩
  simp (maxSteps := 1000000) (disch := omega) only [↓sy1, sy2, sy3, readOK, sy5, sy6, Nat.reduceEqDiff, ↓reduceIte, sy7, sy8, sy9, sya, oneOf, syb, syc, Nat.reduceAdd, Nat.reduceMul, syd, sye, syf, syg, syh, reduceCtorEq]
  refine call0 (live3_spec _) ?_
  rintro _ w2 ⟨rfl, hg2⟩
  have hx2 : Ext (fun c => c = 1) G00 w G1 w2 := (hx1.mono (fun _ h => h.elim)).trans (.grow hg2)
  have hv2 := hv.grow (hx2.toGrow (by omega))
  by_cases hl0 : l.length = 0
  · simp (maxSteps := 1000000) (disch := omega) only [↓sy1, sy2, sy3, readOK, sy5, sy6, Nat.reduceEqDiff, ↓reduceIte, sy7, sy8, sy9, sya, oneOf, syb, syc, Nat.reduceAdd, Nat.reduceMul, syd, sye, syf, syg, syh, reduceCtorEq, hv2.len, hl0, show (((0 : Nat) : Int) = 0) = True from by simp, decide_true, Bool.not_true]
    refine call0 (live3_spec _) ?_
    rintro _ w3 ⟨rfl, hg3⟩
    simp (maxSteps := 1000000) (disch := omega) only [↓sy1, sy2, sy3, readOK, sy5, sy6, Nat.reduceEqDiff, ↓reduceIte, sy7, sy8, sy9, sya, oneOf, syb, syc, Nat.reduceAdd, Nat.reduceMul, syd, sye, syf, syg, syh, reduceCtorEq]
    exact R_out ((hx2.toGrow (by omega)).trans hg3)
  simp (maxSteps := 1000000) (disch := omega) only [↓sy1, sy2, sy3, readOK, sy5, sy6, Nat.reduceEqDiff, ↓reduceIte, sy7, sy8, sy9, sya, oneOf, syb, syc, Nat.reduceAdd, Nat.reduceMul, syd, sye, syf, syg, syh, reduceCtorEq, hv2.len, show ¬ ((l.length : Int) = 0) from by omega, decide_false, Bool.not_true]
  refine loop_rule (fun e w' => ∃ (i : Nat) (G' : Gh), i ≤ min (l.length - 1) 8 ∧ e 10 = .int .i64 i ∧ e 7 = .pointer (some ⟨q, 0, none⟩) ∧ e 0 = lv ∧ e 1 = .int .u16 k ∧ e 2 = cv ∧
      LogAt G' 1 w' q 8 0 (commits 8 (Dsk.zero 20) (l.take i)) ∧ Ext (fun c => c = 1) G00 w G' w') (fun e _ => min (l.length - 1) 8 - (intOf (e 10)).toNat)
    ⟨0, G1, by omega, by simp [upd, updO, ev], by simp [upd, updO, ev], by simp [upd, updO, ev], by simp [upd, updO, ev], by simp [upd, updO, ev], hl1.grow hg2, hx2⟩ ?_
  rintro e w3 ⟨i, G3, hi, e10, e7, e0, e1, e2, hl3, hx3⟩
  have hg3 := hx3.toGrow (by omega)
  have hv3 := hv.grow hg3
  have hops := commits_below (D := Dsk.zero 20) (size := 8) (l := l) (i := i) (k := 8) (by omega) rfl
  have hfirst : (commits 8 (Dsk.zero 20) (l.take i)).first.length = 20 := by rw [commits_first, zero_len]
  have hlen1 : (l.length : Int) - 1 = ((l.length - 1 : Nat) : Int) := by omega
  have hlen := hv3.len
  by_cases hlt : i < min (l.length - 1) 8
  · have hil : i < l.length := by omega
    have hstep := commits_take (size := 8) (D := Dsk.zero 20) hil
    generalize commits 8 (Dsk.zero 20) (l.take i) = D at hl3 hops hfirst hstep
    obtain ⟨a, u, ha, hld, hx⟩ := hv3.at hil
    simp (maxSteps := 1000000) (disch := omega) only [↓sy1, sy2, sy3, readOK, sy5, sy6, Nat.reduceEqDiff, ↓reduceIte, sy7, sy8, sy9, sya, oneOf, syb, syc, Nat.reduceAdd, Nat.reduceMul, syd, sye, syf, syg, syh, reduceCtorEq, F9_L0, e10, e7, e0, e1, e2, hlen, show (i : Int) < (l.length : Int) - 1 from by omega, show ((i : Int) < 8) from by omega, decide_true, ha, hld]
    refine call0 (dpages_spec hx) ?_
    rintro pv w4 ⟨hpv, hg4⟩
    have hx4 : Ext0 G3 w3 (G3.new w3.heap.size) w4 := .newB hg4
    obtain ⟨xs, hps⟩ := hpv.held (G := G3.new w3.heap.size) (κ := 1) (fun b hb => by rw [Gh.new_own hb]; omega)
    simp (maxSteps := 1000000) (disch := omega) only [↓sy1, sy2, sy3, readOK, sy5, sy6, Nat.reduceEqDiff, ↓reduceIte, sy7, sy8, sy9, sya, oneOf, syb, syc, Nat.reduceAdd, Nat.reduceMul, syd, sye, syf, syg, syh, reduceCtorEq, e10, e7, e0, e1, e2]
    refine call0 (commit_spec (hl3.ext hx4 id id) hps (pgs_most _) (by omega)) ?_
    rintro _ w5 ⟨rfl, G5, hl5, hx5⟩
    simp (maxSteps := 1000000) (disch := omega) only [↓sy1, sy2, sy3, readOK, sy5, sy6, Nat.reduceEqDiff, ↓reduceIte, sy7, sy8, sy9, sya, oneOf, syb, syc, Nat.reduceAdd, Nat.reduceMul, syd, sye, syf, syg, syh, reduceCtorEq, e10, e7, e0, e1, e2]
    refine R_out ⟨⟨i + 1, G5, by omega, rfl, by rw [hstep]; exact hl5, (hx3.trans (hx4.mono (fun _ h => h.elim))).trans hx5⟩, ?_⟩
    simp only [intOf]; omega
  · have hcalm := commits_calm (size := 8) (l := l.take i) (zero_calm (n := 20) (by omega)) (by rw [zero_len]; omega)
    have hflat := commits_flat (size := 8) (l := l.take i) (zero_flat 20)
    have hil : l.length - 1 < l.length := by omega
    generalize commits 8 (Dsk.zero 20) (l.take i) = D at hl3 hops hfirst hcalm hflat
    by_cases h1 : i < l.length - 1
    all_goals first
      | (simp (maxSteps := 1000000) (disch := omega) only [↓sy1, sy2, sy3, readOK, sy5, sy6, Nat.reduceEqDiff, ↓reduceIte, sy7, sy8, sy9, sya, oneOf, syb, syc, Nat.reduceAdd, Nat.reduceMul, syd, sye, syf, syg, syh, reduceCtorEq, F9_L0, e10, e7, e0, e1, e2, hlen, show (i : Int) < (l.length : Int) - 1 from by omega, show ¬ ((i : Int) < 8) from by omega, decide_true, decide_false])
      | (simp (maxSteps := 1000000) (disch := omega) only [↓sy1, sy2, sy3, readOK, sy5, sy6, Nat.reduceEqDiff, ↓reduceIte, sy7, sy8, sy9, sya, oneOf, syb, syc, Nat.reduceAdd, Nat.reduceMul, syd, sye, syf, syg, syh, reduceCtorEq, F9_L0, e10, e7, e0, e1, e2, hlen, show ¬ ((i : Int) < (l.length : Int) - 1) from by omega, decide_true, decide_false])
    all_goals
      refine call0 (all_spec hl3) ?_
      rintro va w4 ⟨hfa, hg4⟩
      have hx4 : Ext0 G3 w3 (G3.new w3.heap.size) w4 := .newB hg4
      have hza : ZeroR (G3.new w3.heap.size) w4 va (lpages 8 D) := hfa.zero (Nat.le_refl _)
      have hl4 := hl3.ext hx4 id id
      generalize G3.new w3.heap.size = G4 at hx4 hza hl4
      simp (maxSteps := 1000000) (disch := omega) only [↓sy1, sy2, sy3, readOK, sy5, sy6, Nat.reduceEqDiff, ↓reduceIte, sy7, sy8, sy9, sya, oneOf, syb, syc, Nat.reduceAdd, Nat.reduceMul, syd, sye, syf, syg, syh, reduceCtorEq, e7, e0, e1, e2]
      refine call0 (ldisk_spec 3 hl4) ?_
      rintro _ w5 ⟨p5, G5, rfl, _, hd5, hx5⟩
      have hza5 := hza.ext hx5 id
      have hl5 := hl4.ext hx5 id id
      simp (maxSteps := 1000000) (disch := omega) only [↓sy1, sy2, sy3, readOK, sy5, sy6, Nat.reduceEqDiff, ↓reduceIte, sy7, sy8, sy9, sya, oneOf, syb, syc, Nat.reduceAdd, Nat.reduceMul, syd, sye, syf, syg, syh, reduceCtorEq, e7, e0, e1, e2]
      refine call0 (ops_spec hd5) ?_
      rintro _ w5' ⟨rfl, rfl⟩
      have hv5 := hv3.grow (hg4.trans hx5.growG)
      obtain ⟨a, u, ha, hld, hx⟩ := hv5.at hil
      simp (maxSteps := 1000000) (disch := omega) only [↓sy1, sy2, sy3, readOK, sy5, sy6, Nat.reduceEqDiff, ↓reduceIte, sy7, sy8, sy9, sya, oneOf, syb, syc, Nat.reduceAdd, Nat.reduceMul, syd, sye, syf, syg, syh, reduceCtorEq, e7, e0, e1, e2, hlen, hlen1, ha, hld]
      refine call0 (dpages_spec hx) ?_
      rintro pv w6 ⟨hpv, hg6⟩
      have hx6 : Ext0 G5 w5' (G5.new w5'.heap.size) w6 := .newB hg6
      obtain ⟨xs, hps⟩ := hpv.held (G := G5.new w5'.heap.size) (κ := 1) (fun b hb => by rw [Gh.new_own hb]; omega)
      have hza6 := hza5.ext hx6 id
      have hl6 := hl5.ext hx6 id id
      generalize G5.new w5'.heap.size = G6 at hx6 hza6 hl6 hps
      generalize hpp : (l[l.length - 1]).pgs = ps at hps
      have hpl : ps.length ≤ 1048576 := by rw [← hpp]; exact pgs_most _
      simp (maxSteps := 1000000) (disch := omega) only [↓sy1, sy2, sy3, readOK, sy5, sy6, Nat.reduceEqDiff, ↓reduceIte, sy7, sy8, sy9, sya, oneOf, syb, syc, Nat.reduceAdd, Nat.reduceMul, syd, sye, syf, syg, syh, reduceCtorEq, e7, e0, e1, e2]
      refine call0 (commit_spec hl6 hps hpl (by omega)) ?_
      rintro _ w7 ⟨rfl, G7, hl7, hx7⟩
      have hza7 := hza6.ext hx7 (by omega)
      have hcl := cdone_ops 8 D ps
      have hcm : D.ops.length ≤ (cdone 8 D ps).ops.length := by rw [cdone_more]; omega
      simp (maxSteps := 1000000) (disch := omega) only [↓sy1, sy2, sy3, readOK, sy5, sy6, Nat.reduceEqDiff, ↓reduceIte, sy7, sy8, sy9, sya, oneOf, syb, syc, Nat.reduceAdd, Nat.reduceMul, syd, sye, syf, syg, syh, reduceCtorEq, e7, e0, e1, e2]
      refine call0 (all_spec hl7) ?_
      rintro vb w8 ⟨hfb, hg8⟩
      have hx8 : Ext0 G7 w7 (G7.new w7.heap.size) w8 := .newB hg8
      have hzb : ZeroR (G7.new w7.heap.size) w8 vb (lpages 8 (cdone 8 D ps)) := hfb.zero (Nat.le_refl _)
      have hza8 := hza7.ext hx8 id
      have hl8 := hl7.ext hx8 id id
      generalize G7.new w7.heap.size = G8 at hx8 hzb hza8 hl8
      simp (maxSteps := 1000000) (disch := omega) only [↓sy1, sy2, sy3, readOK, sy5, sy6, Nat.reduceEqDiff, ↓reduceIte, sy7, sy8, sy9, sya, oneOf, syb, syc, Nat.reduceAdd, Nat.reduceMul, syd, sye, syf, syg, syh, reduceCtorEq, e7, e0, e1, e2]
      refine call0 (ldisk_spec 4 hl8) ?_
      rintro _ w9 ⟨p9, G9, rfl, _, hd9, hx9⟩
      have hza9 := hza8.ext hx9 id
      have hzb9 := hzb.ext hx9 id
      simp (maxSteps := 1000000) (disch := omega) only [↓sy1, sy2, sy3, readOK, sy5, sy6, Nat.reduceEqDiff, ↓reduceIte, sy7, sy8, sy9, sya, oneOf, syb, syc, Nat.reduceAdd, Nat.reduceMul, syd, sye, syf, syg, syh, reduceCtorEq, e7, e0, e1, e2]
      refine call0 (ops_spec hd9) ?_
      rintro _ w9' ⟨rfl, rfl⟩
      have hf9 : (cdone 8 D ps).first.length = 20 := by rw [cdone_first]; exact hfirst
      have hokD : D.Ok := hl3.cells.choose_spec.1.ok
      have hcrash := fun k' ks h1 h2 => @crash_commit 8 D ps k' ks hflat hcalm hokD (by rw [hfirst]; omega) h1 h2
      have hlpa := take_pg 8 D
      have hlpb := take_pg 8 (cdone 8 D ps)
      have hsa := lpages_small hl3
      have hsb := lpages_small hl7
      have hla := lpages_length 8 D
      have hlb := lpages_length 8 (cdone 8 D ps)
      generalize cdone 8 D ps = E at hl7 hl8 hcl hcm hd9 hf9 hcrash hlpb hsb hlb hzb hzb9
      have hrem : (k : Int).tmod ((E.ops.length : Int) - (D.ops.length : Int) + 1) = ((k % (E.ops.length - D.ops.length + 1) : Nat) : Int) := by
        rw [show (E.ops.length : Int) - (D.ops.length : Int) + 1 = ((E.ops.length - D.ops.length + 1 : Nat) : Int) from by omega]; rfl
      have hmod := Nat.mod_lt k (show 0 < E.ops.length - D.ops.length + 1 by omega)
      obtain ⟨at_, hat⟩ : ∃ a : Nat, a = D.ops.length + k % (E.ops.length - D.ops.length + 1) := ⟨_, rfl⟩
      have hadd : (D.ops.length : Int) + ((k % (E.ops.length - D.ops.length + 1) : Nat) : Int) = (at_ : Int) := by omega
      have hx39 : Ext (fun c => c = 1) G3 w3 G9 w9' := (((hx4.trans hx5).trans hx6).mono (fun _ h => h.elim)).trans (hx7.trans ((hx8.trans hx9).mono (fun _ h => h.elim)))
      have hxw9 := hx3.trans hx39
      have hgw9 := hxw9.toGrow (by omega)
      have hc9 := hcv.grow hgw9
      simp (maxSteps := 1000000) (disch := omega) only [↓sy1, sy2, sy3, readOK, sy5, sy6, Nat.reduceEqDiff, ↓reduceIte, sy7, sy8, sy9, sya, oneOf, syb, syc, Nat.reduceAdd, Nat.reduceMul, syd, sye, syf, syg, syh, reduceCtorEq, e7, e0, e1, e2, hrem, hadd]
      refine call0 (crashed3_spec 5 6 7 (by omega) (by omega) (by omega) hd9 hc9 (fun b hb hne => ?_) (k := at_) (by omega)) ?_
      · have hbl := hcv.lt (fun h => hne (by simpa [bs] using h)) hb
        rw [hxw9.own b hbl]
        exact ⟨by show 0 ≠ 5; omega, by show 0 ≠ 6; omega⟩
      rintro _ w10 ⟨q10, ks, G10, rfl, _, hok10, hmay10, hd10, hx10⟩
      have hza10 := hza9.ext hx10 (by omega)
      have hzb10 := hzb9.ext hx10 (by omega)
      have hres := hcrash at_ ks (by omega) (by omega) hok10 hmay10
      have hokX := hd10.ok
      have hlenX : ((E.cut at_).crash (ks.map Int.toNat)).first.length = 20 := by
        rw [← Dsk.image_length, Dsk.crash_length]; exact hf9
      have hopsX : ((E.cut at_).crash (ks.map Int.toNat)).ops.length = 0 := rfl
      generalize (E.cut at_).crash (ks.map Int.toNat) = X at hres hokX hlenX hopsX hd10
      obtain ⟨P, hP, hcase⟩ : ∃ P, Tells 8 X.image P ∧ ((P = pg 8 D ∧ (at_ = E.ops.length → pg 8 E = pg 8 D)) ∨ (P = pg 8 E ∧ (at_ = D.ops.length → pg 8 E = pg 8 D))) := by
        rcases hres with ⟨h1, h2⟩ | ⟨h1, h2⟩
        · exact ⟨_, h1, .inl ⟨rfl, h2⟩⟩
        · exact ⟨_, h1, .inr ⟨rfl, h2⟩⟩
      obtain ⟨ns, Y, _, _, hop, _, hlY⟩ := tells_opened hokX (by rw [hlenX]; omega) hP
      have hpd : P.take 100 = lpages 8 D ∨ P.take 100 = lpages 8 E := by
        rcases hcase with ⟨rfl, _⟩ | ⟨rfl, _⟩
        · exact .inl hlpa
        · exact .inr hlpb
      have hend : at_ = E.ops.length → P.take 100 = lpages 8 E := fun h => by
        rcases hcase with ⟨rfl, h2⟩ | ⟨rfl, _⟩
        · rw [← hlpb, h2 h]
        · exact hlpb
      have hbeg : at_ = D.ops.length → P.take 100 = lpages 8 D := fun h => by
        rcases hcase with ⟨rfl, _⟩ | ⟨rfl, h2⟩
        · exact hlpa
        · rw [← hlpa, ← h2 h]
      rw [← hlY] at hpd hend hbeg
      simp (maxSteps := 1000000) (disch := omega) only [↓sy1, sy2, sy3, readOK, sy5, sy6, Nat.reduceEqDiff, ↓reduceIte, sy7, sy8, sy9, sya, oneOf, syb, syc, Nat.reduceAdd, Nat.reduceMul, syd, sye, syf, syg, syh, reduceCtorEq, e7, e0, e1, e2]
      refine call0 (openg_spec (size := 8) 8 (by omega) hd10 (by omega) (by rw [hlenX]; omega) (by omega)) ?_
      rintro _ w11 hor
      rw [hop] at hor
      obtain ⟨q11, G11, rfl, _, hl11, hx11⟩ := hor
      have hza11 := hza10.ext hx11 (by omega)
      have hzb11 := hzb10.ext hx11 (by omega)
      simp (maxSteps := 1000000) (disch := omega) only [↓sy1, sy2, sy3, readOK, sy5, sy6, Nat.reduceEqDiff, ↓reduceIte, sy7, sy8, sy9, sya, oneOf, syb, syc, Nat.reduceAdd, Nat.reduceMul, syd, sye, syf, syg, syh, reduceCtorEq, e7, e0, e1, e2, decide_true, Bool.not_true]
      refine call0 (all_spec hl11) ?_
      rintro vn w12 ⟨hfn, hg12⟩
      have hsn := lpages_small hl11
      have hln := lpages_length 8 Y
      have hxa := hza11.has.grow hg12
      have hxb := hzb11.has.grow hg12
      have hxn := hfn.has
      have hgw : Grow w w12 := (((hxw9.mono (κ' := fun c => c = 1 ∨ c = 5 ∨ c = 6 ∨ c = 8) (by omega)).trans (hx10.mono (by omega))).trans ((hx11.mono (by omega)).trans (.grow hg12))).toGrow (by omega)
      simp (maxSteps := 1000000) (disch := omega) only [↓sy1, sy2, sy3, readOK, sy5, sy6, Nat.reduceEqDiff, ↓reduceIte, sy7, sy8, sy9, sya, oneOf, syb, syc, Nat.reduceAdd, Nat.reduceMul, syd, sye, syf, syg, syh, reduceCtorEq, e7, e0, e1, e2]
      refine call0 (ops_spec (((hd9.ext hx10 (by omega)).ext hx11 (by omega)).grow hg12)) ?_
      rintro _ w13 ⟨rfl, rfl⟩
      by_cases hae : at_ = E.ops.length
      · have hf := hend hae
        simp (maxSteps := 1000000) (disch := omega) only [↓sy1, sy2, sy3, readOK, sy5, sy6, Nat.reduceEqDiff, ↓reduceIte, sy7, sy8, sy9, sya, oneOf, syb, syc, Nat.reduceAdd, Nat.reduceMul, syd, sye, syf, syg, syh, reduceCtorEq, e7, e0, e1, e2, hae, decide_true]
        refine call0 (sameAll_spec vn vb _ _ _ hxn hxb (by omega) hsn) ?_
        rintro _ w14 ⟨rfl, hg14⟩
        simp (maxSteps := 1000000) (disch := omega) only [↓sy1, sy2, sy3, readOK, sy5, sy6, Nat.reduceEqDiff, ↓reduceIte, sy7, sy8, sy9, sya, oneOf, syb, syc, Nat.reduceAdd, Nat.reduceMul, syd, sye, syf, syg, syh, reduceCtorEq, hf, decide_true]
        exact R_out (hgw.trans hg14)
      · simp (maxSteps := 1000000) (disch := omega) only [↓sy1, sy2, sy3, readOK, sy5, sy6, Nat.reduceEqDiff, ↓reduceIte, sy7, sy8, sy9, sya, oneOf, syb, syc, Nat.reduceAdd, Nat.reduceMul, syd, sye, syf, syg, syh, reduceCtorEq, e7, e0, e1, e2, show ¬ ((at_ : Int) = (E.ops.length : Int)) from by omega, decide_false]
        by_cases hab : at_ = D.ops.length
        · have hf := hbeg hab
          simp (maxSteps := 1000000) (disch := omega) only [↓sy1, sy2, sy3, readOK, sy5, sy6, Nat.reduceEqDiff, ↓reduceIte, sy7, sy8, sy9, sya, oneOf, syb, syc, Nat.reduceAdd, Nat.reduceMul, syd, sye, syf, syg, syh, reduceCtorEq, e7, e0, e1, e2, hab, decide_true]
          refine call0 (sameAll_spec vn va _ _ _ hxn hxa (by omega) hsn) ?_
          rintro _ w14 ⟨rfl, hg14⟩
          simp (maxSteps := 1000000) (disch := omega) only [↓sy1, sy2, sy3, readOK, sy5, sy6, Nat.reduceEqDiff, ↓reduceIte, sy7, sy8, sy9, sya, oneOf, syb, syc, Nat.reduceAdd, Nat.reduceMul, syd, sye, syf, syg, syh, reduceCtorEq, hf, decide_true]
          exact R_out (hgw.trans hg14)
        · simp (maxSteps := 1000000) (disch := omega) only [↓sy1, sy2, sy3, readOK, sy5, sy6, Nat.reduceEqDiff, ↓reduceIte, sy7, sy8, sy9, sya, oneOf, syb, syc, Nat.reduceAdd, Nat.reduceMul, syd, sye, syf, syg, syh, reduceCtorEq, e7, e0, e1, e2, show ¬ ((at_ : Int) = (D.ops.length : Int)) from by omega, decide_false]
          refine call0 (sameAll_spec vn va _ _ _ hxn hxa (by omega) hsn) ?_
          rintro _ w14 ⟨rfl, hg14⟩
          by_cases hna : lpages 8 Y = lpages 8 D
          · simp (maxSteps := 1000000) (disch := omega) only [↓sy1, sy2, sy3, readOK, sy5, sy6, Nat.reduceEqDiff, ↓reduceIte, sy7, sy8, sy9, sya, oneOf, syb, syc, Nat.reduceAdd, Nat.reduceMul, syd, sye, syf, syg, syh, reduceCtorEq, hna, decide_true]
            exact R_out (hgw.trans hg14)
          · have hnb : lpages 8 Y = lpages 8 E := hpd.resolve_left hna
            simp (maxSteps := 1000000) (disch := omega) only [↓sy1, sy2, sy3, readOK, sy5, sy6, Nat.reduceEqDiff, ↓reduceIte, sy7, sy8, sy9, sya, oneOf, syb, syc, Nat.reduceAdd, Nat.reduceMul, syd, sye, syf, syg, syh, reduceCtorEq, hna, decide_false]
            refine call0 (sameAll_spec vn vb _ _ _ (hxn.grow hg14) (hxb.grow hg14) (by omega) hsn) ?_
            rintro _ w15 ⟨rfl, hg15⟩
            simp (maxSteps := 1000000) (disch := omega) only [↓sy1, sy2, sy3, readOK, sy5, sy6, Nat.reduceEqDiff, ↓reduceIte, sy7, sy8, sy9, sya, oneOf, syb, syc, Nat.reduceAdd, Nat.reduceMul, syd, sye, syf, syg, syh, reduceCtorEq, hnb, decide_true]
            exact R_out ((hgw.trans hg14).trans hg15)
end Go.Proofs.Ytneehlkofcdhoaa

/- Arguments opened: rows of numbers, of bytes. What is only read reads as it did. -/
namespace Go.Proofs.Ytneehlkofcdhoaa
open Go
set_option linter.unusedSimpArgs false
open Go.RowKit Go.ChangeShapes Go.WideShapes Go.Deep Go.Joins
theorem okSlice {P : Program} {w : World} {r : Reach} {base : Nat} {t e : TypeId} {v : Value} (ht : P.underlying t = some (.slice e)) (h : Value.okWide P w r base t v) :
    v = .slice none 0 0 ∨ ∃ b o len cap, v = .slice (some ⟨b, o, none⟩) len cap := by
  simp only [Value.okWide, ht, Cell.okWide] at h
  cases v with
  | slice a len cap =>
    cases a with
    | none =>
      simp only [Cell.ok, ht] at h
      cases len <;> cases cap <;> simp at h
      exact .inl rfl
    | some a =>
      simp only [Cell.ok, ht] at h
      obtain ⟨_, _, _, hs, _⟩ := h
      obtain ⟨b, o, s⟩ := a
      cases hs
      exact .inr ⟨b, o, len, cap, rfl⟩
  | _ => simp [Cell.ok, ht] at h
section
variable {H : Type} {enc : TypeId × Value → H} {w : World} {base : Nat} {spare : Nat → Bool} {held : Bool}
theorem cellsBool : Try.prog.cellsOf 4 = 1 := by kernel_rfl
theorem cellsInt : Try.prog.cellsOf 3 = 1 := by kernel_rfl
theorem cellsU8 : Try.prog.cellsOf 5 = 1 := by kernel_rfl
set_option maxRecDepth 100000 in
/-- A row of numbers. -/
theorem open_intsL {v : Value} {d : DataW H} {p : List MemPlace} {W : World} {b0 : Nat} (hv : Value.okWide Try.prog W .any b0 30 v) (h : DataW.Trod enc Try.prog W 0 (fun _ => true) true 30 v d p) :
    ∃ l : List Int, HasI W v l ∧ l.length ≤ 9223372036854775807 ∧ ∀ z ∈ l, -9223372036854775808 ≤ z ∧ z ≤ 9223372036854775807 := by
  obtain ⟨fuel, hf⟩ := h
  rcases okSlice Try.underlying30 hv with rfl | ⟨b, o, len, cap, rfl⟩
  · exact ⟨[], Has.nil 1 W, by simp, by simp⟩
  rcases open_ints Try.underlying30 Try.underlying3 cellsInt hf with ⟨hcs, _⟩ | ⟨a, len', cap', zs, hcs, _, hl, hm, hz, hx, hcell, hwz⟩
  · simp [Value.cells] at hcs
  simp only [Value.cells, List.cons.injEq, Value.slice.injEq, and_true, Option.some.injEq] at hcs
  obtain ⟨rfl, rfl, rfl⟩ := hcs
  simp only [if_true] at hz
  have hlen : (zs.take len).length = len := by rw [List.length_take]; omega
  refine ⟨zs.take len, .inl ⟨b, o, len, cap, rfl, by simp only [ints, List.length_map, hlen]; omega, hl, fun j u hj => ?_⟩, ?_, fun z hz' => ?_⟩
  · simp only [ints, List.getElem?_map, Option.map_eq_some_iff] at hj
    obtain ⟨z, hj, rfl⟩ := hj
    obtain ⟨hjl, hj⟩ := List.getElem?_eq_some_iff.1 hj
    rw [hlen] at hjl
    have := hcell j (by omega)
    rw [add_lit] at this
    rw [this, ← hj, List.getElem_take, List.getD_eq_getElem?_getD, List.getElem?_eq_getElem (by omega)]; rfl
  · rw [hlen]; have : maxLen = 9223372036854775807 := rfl; omega
  · have := bounds_i64 (hwz z (List.mem_of_mem_take hz')); omega
set_option maxRecDepth 100000 in
/-- A row of bytes. -/
theorem open_bytesL {v : Value} {d : DataW H} {p : List MemPlace} {W : World} {b0 : Nat} (hv : Value.okWide Try.prog W .any b0 28 v) (h : DataW.Trod enc Try.prog W 0 (fun _ => true) true 28 v d p) :
    ∃ l : List UInt8, HasB W v l := by
  obtain ⟨fuel, hf⟩ := h
  rcases okSlice Try.underlying28 hv with rfl | ⟨b, o, len, cap, rfl⟩
  · exact ⟨[], Has.nil 1 W⟩
  rcases open_ints Try.underlying28 Try.underlying5 cellsU8 hf with ⟨hcs, _⟩ | ⟨a, len', cap', zs, hcs, _, hl, hm, hz, hx, hcell, hwz⟩
  · simp [Value.cells] at hcs
  simp only [Value.cells, List.cons.injEq, Value.slice.injEq, and_true, Option.some.injEq] at hcs
  obtain ⟨rfl, rfl, rfl⟩ := hcs
  simp only [if_true] at hz
  have hlen : (zs.take len).length = len := by rw [List.length_take]; omega
  refine ⟨(zs.take len).map fun z => UInt8.ofNat z.toNat, .inl ⟨b, o, len, cap, rfl, by simp [bs]; omega, hl, fun j u hj => ?_⟩⟩
  simp only [bs, List.map_map, List.getElem?_map, Option.map_eq_some_iff, Function.comp] at hj
  obtain ⟨z, hj, rfl⟩ := hj
  obtain ⟨hjl, hj⟩ := List.getElem?_eq_some_iff.1 hj
  rw [hlen] at hjl
  have := hcell j (by omega)
  rw [add_lit] at this
  have hbz := bounds_u8 (hwz z (by rw [← hj, List.getElem_take]; exact List.getElem_mem _))
  rw [this, ← hj, List.getElem_take, List.getD_eq_getElem?_getD, List.getElem?_eq_getElem (by omega)]
  rw [List.getElem_take] at hj
  have hz' : ((UInt8.ofNat z.toNat).toNat : Int) = z := by rw [UInt8.toNat_ofNat']; omega
  rw [hj, hz']; rfl
theorem u8_nat {n : Int} (h : (Lit.int .u8 n).wf = true) : ∃ k : Nat, k < 256 ∧ n = (k : Int) := by
  have := bounds_u8 h
  exact ⟨n.toNat, by omega, by omega⟩
/-- What is only read reads as it did. -/
theorem argsStay {P : Program} {W W' : World} (hl : laidOutB P = true) (hb : Below W.heap.size W W') : ∀ {ts : List TypeId} {vs : List Value} {ds : List (DataW H)} {ps : List MemPlace}, (ts.all fun t => P.readableRec t && decide (t < P.types.size)) = true →
    DataW.TrodAll enc P W 0 (fun _ => true) true ts vs ds ps → (∀ x ∈ ps, x.block < W.heap.size) → DataW.TrodAll enc P W' 0 (fun b => decide (b < W.heap.size)) true ts vs ds ps
  | [], _, _, _, _, h, _ => by
    obtain ⟨rfl, rfl, rfl⟩ := trodAll_nil h
    exact trodAll_mk0
  | t :: ts, _, _, _, ht, h, hlt => by
    obtain ⟨v, vs, d, ds, p, q, rfl, rfl, rfl, h0, h1⟩ := trodAll_cons h
    simp only [List.all_cons, Bool.and_eq_true, decide_eq_true_eq] at ht
    exact trodAll_cons_mk (Below.trod hl ht.1.1 ht.1.2 h0 hb (fun x hx => hlt x (by simp [hx]))) (argsStay hl hb ht.2 h1 (fun x hx => hlt x (by simp [hx])))
end
end Go.Proofs.Ytneehlkofcdhoaa

/- Arguments opened: rows of groups of pages. -/
namespace Go.Proofs.Ytneehlkofcdhoaa
open Go
set_option linter.unusedSimpArgs false
open Go.RowKit Go.ChangeShapes Go.WideShapes Go.Deep Go.Joins
section
variable {H : Type} {enc : TypeId × Value → H} {w : World} {base : Nat} {spare : Nat → Bool} {held : Bool}
theorem spot_none {a : Addr} {v : Value} (h : w.cell? a = some v) : a.spot = none := by
  obtain ⟨b, o, s⟩ := a
  cases s with
  | none => rfl
  | some s =>
    simp only [World.cell?] at h
    split at h <;> simp at h
theorem open_intsX {c : Value} {fuel : Nat} {x : DataW H × List MemPlace} (h : DataW.trod enc Try.prog w base (fun _ => true) held fuel 30 [c] = some x) : ∃ l : List Int, HasX w c l := by
  rcases open_ints Try.underlying30 Try.underlying3 cellsInt h with ⟨hcs, _⟩ | ⟨a, len, cap, zs, hcs, _, hl, hm, hz, hx, hcell, hwz⟩
  · cases hcs; exact ⟨[], .inl (Has.nil 1 w)⟩
  · cases hcs
    simp only [if_true] at hz
    by_cases h0 : cap = 0
    · subst h0
      obtain rfl : len = 0 := by omega
      exact ⟨[], .inr ⟨rfl, a, rfl⟩⟩
    · have hs := hcell 0 (by omega)
      rw [show a.add 0 = a from if_pos rfl] at hs
      have hsp := spot_none hs
      obtain ⟨b, o, s⟩ := a
      cases hsp
      have hlen : (zs.take len).length = len := by rw [List.length_take]; omega
      refine ⟨zs.take len, .inl (.inl ⟨b, o, len, cap, rfl, by simp only [ints, List.length_map, hlen]; omega, hl, fun j u hj => ?_⟩)⟩
      simp only [ints, List.getElem?_map, Option.map_eq_some_iff] at hj
      obtain ⟨z, hj, rfl⟩ := hj
      obtain ⟨hjl, hj⟩ := List.getElem?_eq_some_iff.1 hj
      rw [hlen] at hjl
      have := hcell j (by omega)
      rw [add_lit] at this
      rw [this, ← hj, List.getElem_take, List.getD_eq_getElem?_getD, List.getElem?_eq_getElem (by omega)]; rfl
theorem cellsDeed3 : Try.prog.cellsOf 32 = 3 := by kernel_rfl
theorem cellsInts : Try.prog.cellsOf 30 = 1 := by kernel_rfl
set_option maxRecDepth 100000 in
theorem deed3_fields {fuel : Nat} {cs : List Value} {x : DataW H × List MemPlace} (h : DataW.trod enc Try.prog w base (fun _ => true) held fuel 32 cs = some x) :
    ∃ (y : Deed3) (u : Value), cs = [.bool y.short, u, .int .u8 (y.byte.toNat : Int)] ∧ HasX w u y.pages := by
  obtain ⟨y0, y1, y2, n, _, hl, h0, h1, h2⟩ := trod_struct3 Try.underlying32 h
  rw [cellsDeed3] at hl
  match cs, hl with
  | [c0, c1, c2], _ =>
    simp only [cellsBool, cellsInts, cellsU8, List.drop_zero, List.drop_succ_cons, List.take_succ_cons, List.take_zero] at h0 h1 h2
    obtain ⟨a0, e0, _⟩ := DataW.trod_bool Try.underlying4 h0
    obtain ⟨l, hl⟩ := open_intsX h1
    obtain ⟨a2, e2, _, wf⟩ := DataW.trod_int Try.underlying5 h2
    cases e0; cases e2
    have hb := bounds_u8 wf
    refine ⟨⟨a0, l, UInt8.ofNat a2.toNat⟩, c1, ?_, hl⟩
    have : ((UInt8.ofNat a2.toNat).toNat : Int) = a2 := by
      rw [UInt8.toNat_ofNat']; omega
    simp only [this]
set_option maxRecDepth 100000 in
theorem open_deeds3 {v : Value} {d : DataW H} {p : List MemPlace} {W : World} {b0 : Nat} (hv : Value.okWide Try.prog W .any b0 22 v) (h : DataW.Trod enc Try.prog W 0 (fun _ => true) true 22 v d p) :
    ∃ l : List Deed3, DeedsAt W v l ∧ l.length ≤ 9223372036854775807 := by
  have hC := cellsDeed3
  obtain ⟨fuel, hf⟩ := h
  rcases okSlice Try.underlying22 hv with rfl | ⟨b, o, len, cap, rfl⟩
  · exact ⟨[], ⟨[], Has.nil 3 W, rfl, fun i hi => by simp at hi⟩, by simp⟩
  rcases open_slice Try.underlying22 hf with ⟨hcs, _⟩ | ⟨a, len', cap', m, n, D, Pl, hcs, hb, hl, hm, hmm, hx, hi⟩
  · simp [Value.cells] at hcs
  simp only [Value.cells, List.cons.injEq, Value.slice.injEq, and_true, Option.some.injEq] at hcs
  obtain ⟨rfl, rfl, rfl⟩ := hcs
  simp only [if_true] at hmm
  have key : ∀ k, k ≤ len → ∃ (l : List Deed3) (xs : List Value), l.length = k ∧ xs.length = 3 * k ∧ (∀ j u, xs[j]? = some u → W.cell? ⟨b, o + j, none⟩ = some u) ∧
      ∀ i (h : i < l.length), ∃ u, xs[3 * i]? = some (.bool l[i].short) ∧ xs[3 * i + 1]? = some u ∧ xs[3 * i + 2]? = some (.int .u8 (l[i].byte.toNat : Int)) ∧ HasX W u l[i].pages := by
    intro k
    induction k with
    | zero => intro _; exact ⟨[], [], rfl, rfl, fun j u hj => by simp at hj, fun i hi => by simp at hi⟩
    | succ k ih =>
      intro hk
      obtain ⟨l, xs, hll, hxl, hlc, hld⟩ := ih (by omega)
      obtain ⟨cs', hc, ht'⟩ := hi k (by omega)
      obtain ⟨y, u, rfl, hu⟩ := deed3_fields ht'
      obtain ⟨_, _, hat⟩ := World.cells?_some hc
      rw [hC] at hat
      refine ⟨l ++ [y], xs ++ [.bool y.short, u, .int .u8 (y.byte.toNat : Int)], by simp [hll], by simp [hxl]; omega, fun j v hj => ?_, fun i hi => ?_⟩
      · by_cases hjl : j < xs.length
        · rw [List.getElem?_append_left hjl] at hj; exact hlc j v hj
        · rw [List.getElem?_append_right (by omega)] at hj
          have hj3 : j - xs.length < 3 := by
            have := (List.getElem?_eq_some_iff.1 hj).1
            simpa using this
          have := hat (j - xs.length) hj3
          rw [add_lit, add_lit, hj] at this
          rw [← this]
          congr 2; omega
      · by_cases hil : i < l.length
        · obtain ⟨v, h1, h2, h3, h4⟩ := hld i hil
          refine ⟨v, ?_, ?_, ?_, ?_⟩
          · rw [List.getElem?_append_left (by omega), List.getElem_append_left hil]; exact h1
          · rw [List.getElem?_append_left (by omega)]; exact h2
          · rw [List.getElem?_append_left (by omega), List.getElem_append_left hil]; exact h3
          · rw [List.getElem_append_left hil]; exact h4
        · have hie : i = k := by simp at hi; omega
          subst hie
          have hy : (l ++ [y])[i]'hi = y := by rw [List.getElem_append_right (by omega)]; simp [hll]
          rw [hy]
          refine ⟨u, ?_, ?_, ?_, hu⟩
          · rw [List.getElem?_append_right (by omega), show 3 * i - xs.length = 0 from by omega]; rfl
          · rw [List.getElem?_append_right (by omega), show 3 * i + 1 - xs.length = 1 from by omega]; rfl
          · rw [List.getElem?_append_right (by omega), show 3 * i + 2 - xs.length = 2 from by omega]; rfl
  obtain ⟨l, xs, hll, hxl, hlc, hld⟩ := key len (Nat.le_refl _)
  exact ⟨l, ⟨xs, .inl ⟨b, o, len, cap, rfl, by omega, hl, hlc⟩, by omega, hld⟩, by have : maxLen = 9223372036854775807 := rfl; omega⟩
end
end Go.Proofs.Ytneehlkofcdhoaa

/- Arguments opened: a number of sixteen bits; two of them. -/
namespace Go.Proofs.Ytneehlkofcdhoaa
open Go
set_option linter.unusedSimpArgs false
open Go.RowKit Go.ChangeShapes Go.WideShapes Go.Deep Go.Joins
theorem u16_nat {n : Int} (h : (Lit.int .u16 n).wf = true) : ∃ k : Nat, k < 65536 ∧ n = (k : Int) := by
  have := bounds_u16 h
  exact ⟨n.toNat, by omega, by omega⟩
section
variable {H : Type} {enc : TypeId × Value → H}
theorem cellsU16 : Try.prog.cellsOf 61 = 1 := by kernel_rfl
theorem cellsU16s : Try.prog.cellsOf 64 = 2 := by kernel_rfl
set_option maxRecDepth 100000 in
theorem open_u16s {v : Value} {d : DataW H} {p : List MemPlace} {W : World} {b0 : Nat} (hv : Value.okWide Try.prog W .any b0 64 v) (h : DataW.Trod enc Try.prog W 0 (fun _ => true) true 64 v d p) :
    ∃ k0 k1 : Nat, k0 < 65536 ∧ k1 < 65536 ∧ v = .agg #[.int .u16 (k0 : Int), .int .u16 (k1 : Int)] := by
  have hC := cellsU16
  obtain ⟨cs, rfl, hsz⟩ : ∃ cs, v = .agg cs ∧ cs.size = Try.prog.cellsOf 64 := by
    simp only [Value.okWide, Try.underlying64] at hv
    obtain ⟨cs, h1, h2, _⟩ := hv
    exact ⟨cs, h1, h2⟩
  obtain ⟨fuel, hf⟩ := h
  rw [cellsU16s] at hsz
  have hf' : DataW.trod enc Try.prog W 0 (fun _ => true) true fuel 64 cs.toList = some (d, p) := by simpa [Value.cells] using hf
  obtain ⟨xs, m, _, _, hl, hxl, hat⟩ := DataW.trod_array Try.underlying64 hf'
  rw [cellsU16s] at hl
  match hcs : cs.toList, hl with
  | [c0, c1], _ =>
    have h0 := hat 0 (by omega)
    have h1 := hat 1 (by omega)
    rw [hcs, hC] at h0 h1
    simp only [Nat.zero_mul, List.drop_zero, List.take_succ_cons, List.take_zero, Nat.one_mul, List.drop_succ_cons] at h0 h1
    rw [List.getElem?_eq_getElem (by omega)] at h0 h1
    obtain ⟨a0, e0, _, w0⟩ := DataW.trod_int Try.underlying61 h0
    obtain ⟨a1, e1, _, w1⟩ := DataW.trod_int Try.underlying61 h1
    cases e0; cases e1
    obtain ⟨k0, hk0, rfl⟩ := u16_nat w0
    obtain ⟨k1, hk1, rfl⟩ := u16_nat w1
    refine ⟨k0, k1, hk0, hk1, ?_⟩
    have : cs = #[.int .u16 (k0 : Int), .int .u16 (k1 : Int)] := by rw [← Array.toArray_toList (xs := cs), hcs]
    rw [this]
end
end Go.Proofs.Ytneehlkofcdhoaa
