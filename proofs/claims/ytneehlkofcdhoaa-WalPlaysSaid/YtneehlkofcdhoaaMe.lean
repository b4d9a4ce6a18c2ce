/- Texts of one claim, put together in their order: what each proves stands ahead of it. -/
import Derived.Test.YtneehlkofcdhoaaMd
import Derived.Test.YtneehlkofcdhoaaMc
import Derived.Carry
import Derived.Deep.Slices
import Derived.Lib.SmallJoins
import Derived.OpenShut
/- Commit. -/
namespace Go.Proofs.Ytneehlkofcdhoaa
open Go
set_option linter.unusedSimpArgs false
open Go.RowKit (intOf)
theorem ptr_cells (a : Option Addr) : (Value.pointer a).cells = #[.pointer a] := rfl
theorem commit_nil {w : World} {v : Value} : Calls Try.prog 14 #[.pointer none, v] w (Ret fun v w' => v = .int .i64 1 ∧ Grow w w') := by
  have hb1 := heap_alloc_new w (.cells #[.pointer none] 23)
  have hbx : (w.alloc (.cells #[.pointer none] 23)).cell? ⟨w.heap.size, 0, none⟩ = some (.pointer none) := by rw [cell_block hb1]; rfl
  apply enter14
  apply R_in
  simp (maxSteps := 600000) (disch := omega) only [F14, ↓sy1, sy2, sy3, readOK, sy5, sy6, Nat.reduceEqDiff, ↓reduceIte, sy7, sy8, sy9, sya, oneOf, syb, syc, Nat.reduceAdd, Nat.reduceMul, syd, sye, syf, syg, syh, reduceCtorEq, ptr_cells, hbx]
  exact R_out ((Keep.refl _ _).alloc _)
set_option maxHeartbeats 4000000 in
theorem commit_spec {G : Gh} {κ : Nat} {w : World} {q size came : Nat} {D : Dsk} {v : Value} {ps : List Pg} {xs : List Value} (h : LogAt G κ w q size came D) (hp : PagesH G κ w v ps xs) (hl : ps.length ≤ 1048576) (ho : D.ops.length < 700000) :
    Calls Try.prog 14 #[.pointer (some ⟨q, 0, none⟩), v] w (Ret fun r w' => r = .int .i64 (ccode D.first.length size ps) ∧ ∃ G', LogAt G' κ w' q size came (cdone size D ps) ∧ Ext (fun c => c = κ) G w G' w') := by
  have hmost := h.cells.choose_spec.1.ok.most
  have hs1 := h.2.1
  have hs2 := h.2.2.1
  have hb1 := heap_alloc_new w (.cells #[.pointer (some ⟨q, 0, none⟩)] 23)
  have hbx : (w.alloc (.cells #[.pointer (some ⟨q, 0, none⟩)] 23)).cell? ⟨w.heap.size, 0, none⟩ = some (.pointer (some ⟨q, 0, none⟩)) := by rw [cell_block hb1]; rfl
  have hg1 : Grow w (w.alloc (.cells #[.pointer (some ⟨q, 0, none⟩)] 23)) := (Keep.refl _ _).alloc _
  have hs1w : w.heap.size < (w.alloc (.cells #[.pointer (some ⟨q, 0, none⟩)] 23)).heap.size := by simp
  apply enter14
  apply R_in
  by_cases hps : ps = []
  · simp (maxSteps := 600000) (disch := omega) only [F14, ↓sy1, sy2, sy3, readOK, sy5, sy6, Nat.reduceEqDiff, ↓reduceIte, sy7, sy8, sy9, sya, oneOf, syb, syc, Nat.reduceAdd, Nat.reduceMul, syd, sye, syf, syg, syh, reduceCtorEq, ptr_cells, hbx, hp.len, show ((ps.length : Int) = 0) = True from by simp [hps], decide_true]
    exact R_out ⟨by simp [ccode, hps], G, by simpa [cdone, hps] using h.grow hg1, .grow hg1⟩
  have hlen0 : 0 < ps.length := List.length_pos_iff.2 hps
  simp (maxSteps := 600000) (disch := omega) only [F14, ↓sy1, sy2, sy3, readOK, sy5, sy6, Nat.reduceEqDiff, ↓reduceIte, sy7, sy8, sy9, sya, oneOf, syb, syc, Nat.reduceAdd, Nat.reduceMul, syd, sye, syf, syg, syh, reduceCtorEq, ptr_cells, hbx, hp.len, show ¬ ((ps.length : Int) = 0) from by omega, decide_false]
  generalize w.alloc (.cells #[.pointer (some ⟨q, 0, none⟩)] 23) = w1 at hg1 hbx hb1 hs1w ⊢
  refine call0 (capacity_spec (h.grow hg1)) ?_
  rintro _ w2 ⟨rfl, rfl⟩
  by_cases hcap : min size 100 < ps.length
  · simp (maxSteps := 600000) (disch := omega) only [↓sy1, sy2, sy3, readOK, sy5, sy6, Nat.reduceEqDiff, ↓reduceIte, sy7, sy8, sy9, sya, oneOf, syb, syc, Nat.reduceAdd, Nat.reduceMul, syd, sye, syf, syg, syh, reduceCtorEq, show (((min size 100 : Nat) : Int) < (ps.length : Int)) from by omega, decide_true]
    exact R_out ⟨by simp [ccode, hps, hcap], G, by simpa [cdone, ccode, hps, hcap] using h.grow hg1, .grow hg1⟩
  simp (maxSteps := 600000) (disch := omega) only [↓sy1, sy2, sy3, readOK, sy5, sy6, Nat.reduceEqDiff, ↓reduceIte, sy7, sy8, sy9, sya, oneOf, syb, syc, Nat.reduceAdd, Nat.reduceMul, syd, sye, syf, syg, syh, reduceCtorEq, show ¬ (((min size 100 : Nat) : Int) < (ps.length : Int)) from by omega, decide_false]
  refine call0 (pany_spec (h.grow hg1) hbx (hp.grow hg1) hl) ?_
  rintro _ w2 ⟨rfl, hg2⟩
  have hg12 := hg1.trans hg2
  by_cases hany : anyOut (D.first.length - size - 1) ps
  · simp (maxSteps := 600000) (disch := omega) only [↓sy1, sy2, sy3, readOK, sy5, sy6, Nat.reduceEqDiff, ↓reduceIte, sy7, sy8, sy9, sya, oneOf, syb, syc, Nat.reduceAdd, Nat.reduceMul, syd, sye, syf, syg, syh, reduceCtorEq, hany, decide_true]
    exact R_out ⟨by simp [ccode, hps, hcap, hany], G, by simpa [cdone, ccode, hps, hcap, hany] using h.grow hg12, .grow hg12⟩
  have h0 := anyOut_nonneg hany
  simp (maxSteps := 600000) (disch := omega) only [↓sy1, sy2, sy3, readOK, sy5, sy6, Nat.reduceEqDiff, ↓reduceIte, sy7, sy8, sy9, sya, oneOf, syb, syc, Nat.reduceAdd, Nat.reduceMul, syd, sye, syf, syg, syh, reduceCtorEq, hany, decide_false, hp.len]
  have hbx2 := hg2.gcell hbx
  have hsz2 := hg12.size
  have hm0 := heap_alloc_new w2 (.map #[] 0)
  have hg3 : Grow w2 (w2.alloc (.map #[] 0)) := (Keep.refl _ _).alloc _
  have hmlt : w2.heap.size < (w2.alloc (.map #[] 0)).heap.size := by simp
  generalize w2.alloc (.map #[] 0) = w3 at hm0 hg3 hmlt ⊢
  generalize hm : w2.heap.size = m at hm0 hmlt hsz2 ⊢
  have hg13 := hg12.trans hg3
  have hcgood : goodP ps → ccode D.first.length size ps = 0 := fun hg => by simp [ccode, hps, hcap, hany, hg]
  have hcbad : ¬ goodP ps → ccode D.first.length size ps = 3 ∧ cdone size D ps = D := fun hg => by simp [cdone, ccode, hps, hcap, hany, hg]
  have hunder : Try.prog.underlying 74 = some (.map 3 28) := by kernel_rfl
  have hunderK : Try.prog.underlying 3 = some (.int .i64) := by kernel_rfl
  refine loop_rule (fun e w' => ∃ i : Nat, i ≤ ps.length ∧ e 31 = .int .i64 i ∧ e 30 = .int .i64 ps.length ∧ e 29 = v ∧ e 5 = .map (some m) ∧ e 2 = .pointer (some ⟨w.heap.size, 0, none⟩) ∧ e 1 = v ∧
      ((ps.take i).map (·.1)).Nodup ∧ (∀ j (hj : j < ps.length), j < i → ps[j].2.length = 512) ∧ Keep (fun b => b = m) w3 w' ∧ w'.heap[m]? = some (.map (ents ps xs i) i)) (fun e _ => ps.length - (intOf (e 31)).toNat)
    ⟨0, by omega, by simp [upd, updO, ev], by simp [upd, updO, ev], by simp [upd, updO, ev], by simp [upd, updO, ev], by simp [upd, updO, ev], by simp [upd, updO, ev], by simp, fun j _ hj => by omega, Keep.refl _ _, by simpa [ents] using hm0⟩ ?_
  rintro e w4 ⟨i, hi, e31, e30, e29, e5, e2, e1, hnd, h512, hk4, hm4⟩
  have hg4 : Grow w w4 := hg13.then hk4 (fun b hb hbm => by omega)
  by_cases hlt : i < ps.length
  · obtain ⟨a, u, ha, hld, hxu, hu⟩ := (hp.grow hg4).at hlt
    have huc := hu.1.isCell
    have hp0 := heap_alloc_new w4 (.cells #[.int .i64 0, .slice none 0 0] 37)
    have hga : Grow w4 (w4.alloc (.cells #[.int .i64 0, .slice none 0 0] 37)) := (Keep.refl _ _).alloc _
    obtain ⟨w5, hst, hp5, hk5⟩ := stn2 (x := .int .i64 ps[i].1) (y := u) hp0 rfl huc
    have hg5 : Grow w4 w5 := hga.then hk5 (fun b hb hbm => by omega)
    have hc0 : w5.cell? ⟨w4.heap.size, 0, none⟩ = some (.int .i64 ps[i].1) := by rw [cell_block hp5]; rfl
    have hc1 : w5.cell? ⟨w4.heap.size, 1, none⟩ = some u := by rw [cell_block hp5]; rfl
    have hm5 := hg5.gheap hm4
    have hlen : ∀ w', lenF w' 0 u = some (.int .i64 ps[i].2.length) := fun w' => by rw [Has.lenB hu.1]
    have hout : ∀ {w' : World}, Grow w w' → ¬ goodP ps → R ((Value.int .i64 3) = .int .i64 (ccode D.first.length size ps) ∧ ∃ G', LogAt G' κ w' q size came (cdone size D ps) ∧ Ext (fun c => c = κ) G w G' w') := fun {w'} hgw hbad => by
      obtain ⟨c1, c2⟩ := hcbad hbad
      exact R_out ⟨by rw [c1], G, by rw [c2]; exact h.grow hgw, .grow hgw⟩
    by_cases hin : ps[i].1 ∈ (ps.take i).map (·.1)
    · have hbad : ¬ goodP ps := fun hg => by
        have h1 := hg.1
        rw [← List.take_append_drop i ps, List.map_append, List.nodup_append] at h1
        refine h1.2.2 _ hin ps[i].1 (List.mem_map.2 ⟨ps[i], ?_, rfl⟩) rfl
        exact List.mem_iff_getElem?.2 ⟨0, by simp [List.getElem?_eq_getElem hlt]⟩
      obtain ⟨r, hr, hre⟩ := List.mem_map.1 hin
      obtain ⟨j, hj, hjr⟩ := List.getElem_of_mem hr
      have hji : j < i := by simp at hj; omega
      have hjp : (ps[j]'(by omega)).1 = ps[i].1 := by rw [← hre, ← hjr]; simp
      have hf := ents_find ps xs hi hnd hji
      rw [hjp] at hf
      obtain ⟨_, u', _, _, hxu', hu'⟩ := (hp.grow hg4).at (i := j) (by omega)
      rw [List.getD_eq_getElem?_getD, hxu'] at hf
      have hlk := lkp_eq (z := .slice none 0 0) hm5 (ents_keyed ps xs i) hf
      obtain ⟨b, hb, hbn⟩ := hu'.1.isnil
      have hbf : b = false := by
        cases b with
        | false => rfl
        | true =>
          have h3 := (hbn rfl).1
          have h4 := congrArg List.length h3
          have h5 := h512 j (by omega) hji
          rw [bs_length, h5] at h4; cases h4
      subst hbf
      simp (maxSteps := 600000) (disch := omega) only [F14_L0, ↓sy1, sy2, sy3, readOK, sy5, sy6, Nat.reduceEqDiff, ↓reduceIte, sy7, sy8, sy9, sya, oneOf, syb, syc, Nat.reduceAdd, Nat.reduceMul, syd, sye, syf, syg, syh, reduceCtorEq, e31, e30, e29, e5, e2, e1, Int.ofNat_lt, hlt, decide_true, ha, hld, agg2_cells (x := .int .i64 0) (y := .slice none 0 0) rfl rfl, hst, hc0, hc1, Option.getD_some, hlk, hb true, hlen]
      exact hout (hg4.trans hg5) hbad
    · have hf := ents_none ps xs hi hin
      have hlk := lkp_none (z := .slice none 0 0) hm5 (ents_keyed ps xs i) hf
      have hnil : eqnF 1 true (.slice none 0 0) = some (.bool false) := rfl
      by_cases h5 : ps[i].2.length = 512
      · simp (maxSteps := 600000) (disch := omega) only [F14_L0, ↓sy1, sy2, sy3, readOK, sy5, sy6, Nat.reduceEqDiff, ↓reduceIte, sy7, sy8, sy9, sya, oneOf, syb, syc, Nat.reduceAdd, Nat.reduceMul, syd, sye, syf, syg, syh, reduceCtorEq, e31, e30, e29, e5, e2, e1, Int.ofNat_lt, hlt, decide_true, ha, hld, agg2_cells (x := .int .i64 0) (y := .slice none 0 0) rfl rfl, hst, hc0, hc1, hlk, hnil, hlen, show ((ps[i].2.length : Int) = 512) = True from by simp [h5], decide_true, Bool.not_true]
        refine put_rule (kk := .i64) (n := ps[i].1) (v := u) (by simp only [upd_at, Nat.reduceEqDiff, reduceIte, ev_tmp, ev_const, List.map_cons, List.map_nil, e5]) (by simp only [upd_at, Nat.reduceEqDiff, reduceIte, ev_tmp, ev_const, List.map_cons, List.map_nil]) (by simp only [upd_at, Nat.reduceEqDiff, reduceIte, ev_tmp, ev_const, List.map_cons, List.map_nil]) hunder hunderK hm5 (ents_keyed ps xs i) (fun hno w6 hk6 hm6 => ?_) (fun j y hj hyk => absurd ?_ hin)
        · have hent : (⟨.int .i64 ps[i].1, u, i⟩ : MapEntry) = ent ps xs i := by simp [ent, List.getElem?_eq_getElem hlt, hxu]
          rw [hent, ents_push] at hm6
          simp (maxSteps := 600000) (disch := omega) only [↓sy1, sy2, sy3, readOK, sy5, sy6, Nat.reduceEqDiff, ↓reduceIte, sy7, sy8, sy9, sya, oneOf, syb, syc, Nat.reduceAdd, Nat.reduceMul, syd, sye, syf, syg, syh, reduceCtorEq, e31, e30, e29, e5, e2, e1]
          refine R_out ⟨⟨i + 1, by omega, rfl, ?_, fun j hj hji => ?_, ?_, hm6⟩, ?_⟩
          · rw [List.take_succ_eq_append_getElem hlt, List.map_append, List.nodup_append]
            refine ⟨hnd, by simp, fun a ha b hb => ?_⟩
            simp at hb; subst hb
            intro hab; subst hab; exact hin ha
          · by_cases hj' : j = i
            · subst hj'; exact h5
            · exact h512 j hj (by omega)
          · exact (hk4.then hg5 (fun _ _ h => h.elim)).then hk6 (fun b hb hbm => hbm)
          · simp only [intOf]; omega
        · have h6 := ents_keys ps xs hi
          have h7 : y.key ∈ ints ((ps.take i).map (·.1)) := by rw [← h6]; exact List.mem_map.2 ⟨y, List.mem_of_getElem? hj, rfl⟩
          rw [hyk, ints, List.mem_map] at h7
          obtain ⟨a, ha, hae⟩ := h7
          cases hae; exact ha
      · simp (maxSteps := 600000) (disch := omega) only [F14_L0, ↓sy1, sy2, sy3, readOK, sy5, sy6, Nat.reduceEqDiff, ↓reduceIte, sy7, sy8, sy9, sya, oneOf, syb, syc, Nat.reduceAdd, Nat.reduceMul, syd, sye, syf, syg, syh, reduceCtorEq, e31, e30, e29, e5, e2, e1, Int.ofNat_lt, hlt, decide_true, ha, hld, agg2_cells (x := .int .i64 0) (y := .slice none 0 0) rfl rfl, hst, hc0, hc1, hlk, hnil, hlen, show ¬ ((ps[i].2.length : Int) = 512) from by omega, decide_false, Bool.not_false]
        exact hout (hg4.trans hg5) (fun hg => h5 (hg.2 _ (List.getElem_mem hlt)))
  · have hie : i = ps.length := by omega
    subst hie
    rw [List.take_length] at hnd
    have hgood : goodP ps := ⟨hnd, fun p hp => by
      obtain ⟨j, hj, rfl⟩ := List.getElem_of_mem hp
      exact h512 j hj hj⟩
    have hcc := hcgood hgood
    have hcd : cdone size D ps = grouped size D (sortP ps) := by simp [cdone, hps, hcc]
    rw [hcc, hcd]
    simp (maxSteps := 600000) (disch := omega) only [F14_L0, ↓sy1, sy2, sy3, readOK, sy5, sy6, Nat.reduceEqDiff, ↓reduceIte, sy7, sy8, sy9, sya, oneOf, syb, syc, Nat.reduceAdd, Nat.reduceMul, syd, sye, syf, syg, syh, reduceCtorEq, e31, e30, e29, e5, e2, e1, Int.ofNat_lt, hlt, decide_false]
    refine call0 keys_spec ?_
    rintro _ w5 ⟨rfl, rfl⟩
    have hb5 := heap_alloc_new w4 (.cells #[.map (some m)] 74)
    have hg5 : Grow w4 (w4.alloc (.cells #[.map (some m)] 74)) := (Keep.refl _ _).alloc _
    simp (maxSteps := 600000) (disch := omega) only [↓sy1, sy2, sy3, readOK, sy5, sy6, Nat.reduceEqDiff, ↓reduceIte, sy7, sy8, sy9, sya, oneOf, syb, syc, Nat.reduceAdd, Nat.reduceMul, syd, sye, syf, syg, syh, reduceCtorEq]
    generalize w4.alloc (.cells #[.map (some m)] 74) = w5 at hb5 hg5 ⊢
    have hbc5 : w5.cell? ⟨w4.heap.size, 0, none⟩ = some (.map (some m)) := by rw [cell_block hb5]; rfl
    have hks := ents_keys ps xs (Nat.le_refl ps.length)
    rw [List.take_length] at hks
    have hnum : ∀ a ∈ ps.map (·.1), 0 ≤ a ∧ a < 1099511627776 := fun a ha => by
      obtain ⟨p, hp, rfl⟩ := List.mem_map.1 ha
      have h1 := h0 p hp
      have h2 : ¬ outOf (D.first.length - size - 1) p.1 := fun hc => hany ⟨p, hp, hc⟩
      simp only [outOf] at h2
      omega
    have hsg := hg4.trans hg5
    refine call0 (sorted_spec hbc5 (hg5.gheap hm4) (ents_ok ps xs (Nat.le_refl _) (by rw [List.take_length]; exact hnd)) hks hnum (by simp; omega)) ?_
    rintro nv w6 ⟨hnv, hg6⟩
    rw [sortP_keys hnd h0] at hnv
    have hg6w := hsg.trans hg6
    have hx6 : Ext (fun c => c = κ) G w (G.new w.heap.size) w6 := .newB hg6w
    have hκ := h.1
    have hnew : ∀ b, w.heap.size ≤ b → (G.new w.heap.size).own b ≠ κ := fun b hb hc => hκ (by rw [Gh.new_own hb] at hc; exact hc.symm)
    have hlog6 : LogAt (G.new w.heap.size) κ w6 q size came D := h.ext (K := fun _ => False) (.newB hg6w) id id
    have hp6 := hp.ext hx6
    have hnvH : Held (G.new w.heap.size) κ w6 nv (ints (zs ((sortP ps).map (·.1)))) := ⟨Has.own hnv, fun b hb _ => by
      obtain ⟨hbb, hbl⟩ := World.ownsRow.lt hnv b hb
      exact ⟨hbl, hnew b (Nat.le_trans hsg.size hbb)⟩⟩
    have hm6 := (hg5.trans hg6).gheap hm4
    have hbx6 := ((hg2.trans hg3).then hk4 (fun b hb hbm => by have := hg2.size; omega) |>.trans (hg5.trans hg6)).gcell hbx
    have hml : m < w6.heap.size := (Array.getElem?_eq_some_iff.1 hm6).1
    generalize hG6 : G.new w.heap.size = G6 at hx6 hnew hlog6 hp6 hnvH
    clear hnv hg6 hg5 hb5 hbc5 hsg hks
    have hsl := sortP_length ps
    have hnl : ∀ w', lenF w' 0 nv = some (.int .i64 (sortP ps).length) := fun w' => by rw [Has.lenI hnvH.1]; simp
    simp (maxSteps := 600000) (disch := omega) only [↓sy1, sy2, sy3, readOK, sy5, sy6, Nat.reduceEqDiff, ↓reduceIte, sy7, sy8, sy9, sya, oneOf, syb, syc, Nat.reduceAdd, Nat.reduceMul, syd, sye, syf, syg, syh, reduceCtorEq, hnl]
    have hcl := Nat.le_of_not_lt hcap
    have hqb := sortP_bytes h0 hgood.2
    have hql := sortP_lt (pages := D.first.length - size - 1) h0 hany
    have hqn := nodup_lt (sortP_rising hnd h0)
    refine loop_rule (fun e w' => ∃ (i : Nat) (G' : Gh), i ≤ (sortP ps).length ∧ e 57 = .int .i64 i ∧ e 56 = .int .i64 (sortP ps).length ∧ e 55 = nv ∧ e 8 = nv ∧ e 5 = .map (some m) ∧ e 2 = .pointer (some ⟨w.heap.size, 0, none⟩) ∧
        LogAt G' κ w' q size came (adds D (copyOps 0 ((sortP ps).take i))) ∧ Ext (fun c => c = κ) G6 w6 G' w') (fun e _ => (sortP ps).length - (intOf (e 57)).toNat)
      ⟨0, G6, by omega, by simp [upd, updO, ev], by simp [upd, updO, ev], by simp [upd, updO, ev], by simp [upd, updO, ev], by simp [upd, updO, ev, e5], by simp [upd, updO, ev, e2], hlog6, .refl _ _ _⟩ ?_
    rintro e w7 ⟨i, G7, hi, e57, e56, e55, e8, e5, e2, hlog7, hx7⟩
    have hcells7 := hlog7
    obtain ⟨_, _, _, ho7, p, hq7, hd7⟩ := hcells7
    have hqp : ∀ {w'}, Grow w7 w' → w'.cell? ⟨q, 0, none⟩ = some (.pointer (some ⟨p, 0, none⟩)) ∧ w'.cell? ⟨q, 1, none⟩ = some (.int .i64 size) := fun hg => ⟨by rw [cell_block (hg.gheap hq7)]; rfl, by rw [cell_block (hg.gheap hq7)]; rfl⟩
    have hbx7 := hx7.keep.cell hbx6 (hnew _ (Nat.le_refl _))
    have hm7 := hx7.keep.heap hm6 (hnew _ (by omega))
    have hf : (adds D (copyOps 0 ((sortP ps).take i))).first = D.first := adds_first _ _
    have hops : (adds D (copyOps 0 ((sortP ps).take i))).ops.length ≤ D.ops.length + i := by
      rw [adds_ops, List.length_append, copyOps_length]; simp; omega
    by_cases hlt7 : i < (sortP ps).length
    · obtain ⟨a, ha, hac, _⟩ := Has.getI (l := zs ((sortP ps).map (·.1))) (hnvH.ext hx7).1 (i := i) (by simpa using hlt7)
      have hz : (zs ((sortP ps).map (·.1)))[i]'(by simpa using hlt7) = (((sortP ps)[i].1 : Nat) : Int) := by simp
      rw [hz] at hac
      simp (maxSteps := 600000) (disch := omega) only [F14_L1, ↓sy1, sy2, sy3, readOK, sy5, sy6, Nat.reduceEqDiff, ↓reduceIte, sy7, sy8, sy9, sya, oneOf, syb, syc, Nat.reduceAdd, Nat.reduceMul, syd, sye, syf, syg, syh, reduceCtorEq, e57, e56, e55, e8, e5, e2, Int.ofNat_lt, hlt7, decide_true, ha, hac]
      refine draw14_0 (fun _ => False) ?_
      have hgd : Grow w7 w7.drew := (Keep.refl _ _).drew
      generalize w7.drew = w8 at hgd ⊢
      have hmem : ((((sortP ps)[i].1 : Nat) : Int), (sortP ps)[i].2) ∈ ps := (sortP_mem h0).1 (List.getElem_mem hlt7)
      obtain ⟨j, hj, hjp⟩ := List.getElem_of_mem hmem
      have hf8 := ents_find ps xs (Nat.le_refl _) (by rw [List.take_length]; exact hnd) hj
      rw [hjp] at hf8
      obtain ⟨_, u, _, _, hxu, hu⟩ := (hp6.ext (hx7.trans (.grow hgd))).at hj
      rw [List.getD_eq_getElem?_getD, hxu, Option.getD_some] at hf8
      rw [hjp] at hu
      have hlk := lkp_eq (z := .slice none 0 0) (hgd.gheap hm7) (ents_keyed ps xs _) hf8
      simp (maxSteps := 600000) (disch := omega) only [PL14_0, ↓sy1, sy2, sy3, readOK, sy5, sy6, Nat.reduceEqDiff, ↓reduceIte, sy7, sy8, sy9, sya, oneOf, syb, syc, Nat.reduceAdd, Nat.reduceMul, syd, sye, syf, syg, syh, reduceCtorEq, e57, e56, e55, e8, e5, e2, hqp hgd, hgd.gcell hbx7, hlk]
      rw [show (1 : Int) + (i : Int) = ((1 + i : Nat) : Int) from by omega]
      refine call0 (write_spec (hd7.grow hgd) (n := 1 + i) (by rw [hf]; omega) (hqb _ (List.getElem_mem hlt7)) hu.1 (by omega)) ?_
      rintro _ w9 ⟨rfl, G9, hd9, hx9⟩
      simp (maxSteps := 600000) (disch := omega) only [↓sy1, sy2, sy3, readOK, sy5, sy6, Nat.reduceEqDiff, ↓reduceIte, sy7, sy8, sy9, sya, oneOf, syb, syc, Nat.reduceAdd, Nat.reduceMul, syd, sye, syf, syg, syh, reduceCtorEq, e57, e56, e55, e8, e5, e2]
      have hx79 : Ext (fun c => c = κ) G7 w7 G9 w9 := (Ext.grow hgd).trans hx9
      have hstep : adds D (copyOps 0 ((sortP ps).take (i + 1))) = (adds D (copyOps 0 ((sortP ps).take i))).add (.wr (1 + i) (sortP ps)[i].2) := by
        rw [copyOps_take _ 0 i hlt7, adds_snoc, show 1 + 0 + i = 1 + i from by omega]
      refine R_out ⟨⟨i + 1, G9, by omega, rfl, by rw [hstep]; exact hlog7.put (hqp (Keep.refl _ _)).1 hx79 rfl hd9, hx7.trans hx79⟩, ?_⟩
      simp only [intOf]; omega
    · have hie7 : i = (sortP ps).length := by omega
      subst hie7
      rw [List.take_length] at hlog7 hd7 hops hf
      simp (maxSteps := 600000) (disch := omega) only [F14_L1, ↓sy1, sy2, sy3, readOK, sy5, sy6, Nat.reduceEqDiff, ↓reduceIte, sy7, sy8, sy9, sya, oneOf, syb, syc, Nat.reduceAdd, Nat.reduceMul, syd, sye, syf, syg, syh, reduceCtorEq, e57, e56, e55, e8, e5, e2, Int.ofNat_lt, hlt7, decide_false, hqp (Keep.refl _ _), hbx7]
      refine call0 (flush_spec hd7 (by omega)) ?_
      rintro _ w8 ⟨rfl, G8, hd8, hx8⟩
      have hlog8 := hlog7.put (E := (adds D (copyOps 0 (sortP ps))).add .fl) (hqp (Keep.refl _ _)).1 hx8 rfl hd8
      have hx68 := hx7.trans hx8
      have hbx8 := hx68.keep.cell hbx6 (hnew _ (Nat.le_refl _))
      simp (maxSteps := 600000) (disch := omega) only [↓sy1, sy2, sy3, readOK, sy5, sy6, Nat.reduceEqDiff, ↓reduceIte, sy7, sy8, sy9, sya, oneOf, syb, syc, Nat.reduceAdd, Nat.reduceMul, syd, sye, syf, syg, syh, reduceCtorEq, e57, e56, e55, e8, e5, e2, hbx8]
      refine call0 (setHead_spec hlog8 (hnvH.ext hx68).1 (by rw [List.length_map]; omega) (by simp [Dsk.add]; omega)) ?_
      rintro _ w9 ⟨G9, hlog9, hx9⟩
      have hx69 := hx68.trans hx9
      have hbx9 := hx69.keep.cell hbx6 (hnew _ (Nat.le_refl _))
      simp (maxSteps := 600000) (disch := omega) only [↓sy1, sy2, sy3, readOK, sy5, sy6, Nat.reduceEqDiff, ↓reduceIte, sy7, sy8, sy9, sya, oneOf, syb, syc, Nat.reduceAdd, Nat.reduceMul, syd, sye, syf, syg, syh, reduceCtorEq, e57, e56, e55, e8, e5, e2, hbx9]
      refine call0 (home_spec hlog9 (hnvH.ext hx69) (by omega) (fun p hp => ⟨hqb p hp, ?_⟩) (fun i hi => ?_) (by simp [Dsk.add]; omega)) ?_
      · have := hql p hp
        simp only [Dsk.add, hf]; omega
      · rw [Dsk.image_fl, Dsk.image_wr, Dsk.image_fl, List.getElem?_set_ne (by omega)]
        have := image_copied (sortP ps) 0 D i hi (by omega)
        rw [show 1 + 0 + i = 1 + i from by omega] at this
        exact this
      rintro _ w10 ⟨G10, hlog10, hx10⟩
      simp (maxSteps := 600000) (disch := omega) only [↓sy1, sy2, sy3, readOK, sy5, sy6, Nat.reduceEqDiff, ↓reduceIte, sy7, sy8, sy9, sya, oneOf, syb, syc, Nat.reduceAdd, Nat.reduceMul, syd, sye, syf, syg, syh, reduceCtorEq]
      have hgr : grouped size D (sortP ps) = homed size ((((adds D (copyOps 0 (sortP ps))).add .fl).add (.wr 0 (headB ((sortP ps).map (·.1))))).add .fl) (sortP ps) := by rw [grouped_eq, homed]
      exact R_out ⟨G10, by rw [hgr]; exact hlog10, hx6.trans (hx69.trans hx10)⟩
end Go.Proofs.Ytneehlkofcdhoaa

/- A deed's pages. -/
namespace Go.Proofs.Ytneehlkofcdhoaa
open Go
set_option linter.unusedSimpArgs false
open Go.RowKit (intOf)
theorem elemPg : ElemIs Try.prog 29 37 2 32 (.agg #[.int .i64 0, .slice none 0 0]) := elem_of (by kernel_rfl)
/-- Pages in memory that the call made. -/
def FreshP (B : Nat) (w : World) (v : Value) (ps : List Pg) : Prop := ∃ xs, w.ownsRow B 37 2 v ps.length xs ∧ xs.length = 2 * ps.length ∧ (∀ x ∈ xs, isCell x = true) ∧
  ∀ i (h : i < ps.length), xs[2 * i]? = some (.int .i64 ps[i].1) ∧ ∃ u, xs[2 * i + 1]? = some u ∧ w.ownsRow B 5 1 u ps[i].2.length (bs ps[i].2)
theorem FreshP.keep {S : Nat → Prop} {B : Nat} {w w' : World} {v : Value} {ps : List Pg} (h : FreshP B w v ps) (hk : Keep S w w') (hs : ∀ b, B ≤ b → ¬ S b) : FreshP B w' v ps := by
  obtain ⟨xs, h1, h2, h3, h4⟩ := h
  refine ⟨xs, own_keepk h1 hk (fun b hb => hs b (World.ownsRow.lt h1 b hb).1), h2, h3, fun i hi => ?_⟩
  obtain ⟨h5, u, h6, h7⟩ := h4 i hi
  exact ⟨h5, u, h6, own_keep h7 hk (fun b hb => hs b (World.ownsRow.lt h7 b hb).1)⟩
theorem FreshP.grow {B : Nat} {w w' : World} {v : Value} {ps : List Pg} (h : FreshP B w v ps) (hk : Grow w w') : FreshP B w' v ps := h.keep hk (fun _ _ => id)
theorem FreshP.held {G : Gh} {κ B : Nat} {w : World} {v : Value} {ps : List Pg} (h : FreshP B w v ps) (hG : ∀ b, B ≤ b → G.own b ≠ κ) : ∃ xs, PagesH G κ w v ps xs := by
  obtain ⟨xs, h1, h2, _, h4⟩ := h
  refine ⟨xs, Has.own h1, h2, fun b hb _ => ?_, fun i hi => ?_⟩
  · obtain ⟨h5, h6⟩ := World.ownsRow.lt h1 b hb
    exact ⟨h6, hG b h5⟩
  · obtain ⟨h5, u, h6, h7⟩ := h4 i hi
    exact ⟨h5, u, h6, Has.own h7, fun b hb _ => by
      obtain ⟨h8, h9⟩ := World.ownsRow.lt h7 b hb
      exact ⟨h9, hG b h8⟩⟩
theorem FreshP.heldx {B : Nat} {w : World} {v : Value} {ps : List Pg} (h : FreshP B w v ps) : ∃ xs, ∀ {G : Gh} {κ : Nat}, (∀ b, B ≤ b → G.own b ≠ κ) → PagesH G κ w v ps xs := by
  obtain ⟨xs, h1, h2, _, h4⟩ := h
  refine ⟨xs, fun hG => ⟨Has.own h1, h2, fun b hb _ => ?_, fun i hi => ?_⟩⟩
  · obtain ⟨h5, h6⟩ := World.ownsRow.lt h1 b hb
    exact ⟨h6, hG b h5⟩
  · obtain ⟨h5, u, h6, h7⟩ := h4 i hi
    exact ⟨h5, u, h6, Has.own h7, fun b hb _ => by
      obtain ⟨h8, h9⟩ := World.ownsRow.lt h7 b hb
      exact ⟨h9, hG b h8⟩⟩
/-- The cells of pages whose bytes the call made. -/
def PgCells (B : Nat) (w : World) (xs : List Value) (ps : List Pg) : Prop := xs.length = 2 * ps.length ∧ (∀ x ∈ xs, isCell x = true) ∧
  ∀ i (h : i < ps.length), xs[2 * i]? = some (.int .i64 ps[i].1) ∧ ∃ u, xs[2 * i + 1]? = some u ∧ w.ownsRow B 5 1 u ps[i].2.length (bs ps[i].2)
theorem PgCells.nil (B : Nat) (w : World) : PgCells B w [] [] := ⟨rfl, by simp, fun i hi => by simp at hi⟩
theorem PgCells.keep {S : Nat → Prop} {B : Nat} {w w' : World} {xs : List Value} {ps : List Pg} (h : PgCells B w xs ps) (hk : Keep S w w') (hs : ∀ b, S b → ∀ {B' n : Nat} {u : Value} {ys : List Value}, w.ownsRow B' 5 1 u n ys → u.ownBlock ≠ some b) : PgCells B w' xs ps := by
  obtain ⟨h2, h3, h4⟩ := h
  refine ⟨h2, h3, fun i hi => ?_⟩
  obtain ⟨h5, u, h6, h7⟩ := h4 i hi
  exact ⟨h5, u, h6, own_keep h7 hk (fun b hb hS => hs b hS h7 hb)⟩
theorem PgCells.snoc {B : Nat} {w : World} {xs : List Value} {ps : List Pg} {p : Pg} {u : Value} (h : PgCells B w xs ps) (hu : w.ownsRow B 5 1 u p.2.length (bs p.2)) : PgCells B w (xs ++ [.int .i64 p.1, u]) (ps ++ [p]) := by
  obtain ⟨h2, h3, h4⟩ := h
  refine ⟨by simp [h2]; omega, fun y hy => ?_, fun j hj => ?_⟩
  · rcases List.mem_append.1 hy with hy | hy
    · exact h3 y hy
    · simp at hy
      rcases hy with rfl | rfl
      · rfl
      · exact (Has.own hu).isCell
  · by_cases hji : j < ps.length
    · obtain ⟨h5, u', h6, h7⟩ := h4 j hji
      rw [List.getElem_append_left hji, List.getElem?_append_left (by omega), List.getElem?_append_left (by omega)]
      exact ⟨h5, u', h6, h7⟩
    · have hje : j = ps.length := by simp at hj; omega
      subst hje
      rw [List.getElem_append_right (Nat.le_refl _), List.getElem?_append_right (by omega), List.getElem?_append_right (by omega), show 2 * ps.length - xs.length = 0 from by omega, show 2 * ps.length + 1 - xs.length = 1 from by omega]
      simp only [Nat.sub_self, List.getElem_cons_zero]
      exact ⟨rfl, u, rfl, hu⟩
theorem own_basek {k B B' n : Nat} {el : TypeId} {w : World} {v : Value} {xs : List Value} (h : w.ownsRow B el k v n xs) (hB : B' ≤ B) : w.ownsRow B' el k v n xs := by
  obtain ⟨h1, h2 | ⟨g, cap, cur, rfl, h2, h3⟩⟩ := h
  · exact ⟨h1, .inl h2⟩
  · exact ⟨h1, .inr ⟨g, cap, cur, rfl, Nat.le_trans hB h2, h3⟩⟩
theorem FreshP.base {B B' : Nat} {w : World} {v : Value} {ps : List Pg} (h : FreshP B w v ps) (hB : B' ≤ B) : FreshP B' w v ps := by
  obtain ⟨xs, h1, h2, h3, h4⟩ := h
  exact ⟨xs, own_basek h1 hB, h2, h3, fun i hi => let ⟨h5, u, h6, h7⟩ := h4 i hi; ⟨h5, u, h6, own_base h7 hB⟩⟩
theorem FreshP.nil (B : Nat) (w : World) : FreshP B w (.slice none 0 0) [] := ⟨[], World.ownsRow_nil w B _ 2, rfl, by simp, fun i hi => by simp at hi⟩
structure Deed3 where
  short : Bool
  pages : List Int
  byte : UInt8
/-- A row of numbers that is only read (one without any may lie anywhere). -/
def HasX (w : World) (v : Value) (l : List Int) : Prop := HasI w v l ∨ (l = [] ∧ ∃ a, v = .slice (some a) 0 0)
theorem HasX.keep {S : Nat → Prop} {w w' : World} {v : Value} {l : List Int} (h : HasX w v l) (hk : Keep S w w') (hs : ∀ b, b < w.heap.size → ¬ S b) : HasX w' v l := by
  rcases h with h | h
  · exact .inl (h.keep hk (fun b hb hne => hs b (h.lt hne hb)))
  · exact .inr h
theorem HasX.isCell {w : World} {v : Value} {l : List Int} (h : HasX w v l) : Go.Proofs.Ytneehlkofcdhoaa.isCell v = true := by
  rcases h with h | ⟨_, a, rfl⟩
  · exact Has.isCell h
  · rfl
theorem HasX.lenI {w : World} {v : Value} {l : List Int} (h : HasX w v l) (w2 : World) : lenF w2 0 v = some (.int .i64 l.length) := by
  rcases h with h | ⟨rfl, a, rfl⟩
  · exact Has.lenI h w2
  · rfl
theorem HasX.getI {w : World} {v : Value} {l : List Int} (h : HasX w v l) {i : Nat} (hi : i < l.length) : ∃ a, iaF 1 v (.int .i64 i) = some (.pointer (some a)) ∧ w.cell? a = some (.int .i64 l[i]) ∧ v.ownBlock = some a.block := by
  rcases h with h | ⟨rfl, _⟩
  · exact Has.getI h hi
  · simp at hi
theorem HasX.grow {w w' : World} {v : Value} {l : List Int} (h : HasX w v l) (hk : Grow w w') : HasX w' v l := h.keep hk (fun _ _ => id)
/-- A deed in memory. -/
def Deed3.At (w : World) (v : Value) (x : Deed3) : Prop := ∃ u, v = .agg #[.bool x.short, u, .int .u8 (x.byte.toNat : Int)] ∧ HasX w u x.pages
theorem Deed3.At.keep {S : Nat → Prop} {w w' : World} {v : Value} {x : Deed3} (h : Deed3.At w v x) (hk : Keep S w w') (hs : ∀ b, b < w.heap.size → ¬ S b) : Deed3.At w' v x := by
  obtain ⟨u, h1, h2⟩ := h
  exact ⟨u, h1, h2.keep hk hs⟩
theorem Deed3.At.grow {w w' : World} {v : Value} {x : Deed3} (h : Deed3.At w v x) (hk : Grow w w') : Deed3.At w' v x := h.keep hk (fun _ _ => id)
def Deed3.byteAt (x : Deed3) (i : Nat) : UInt8 := x.byte + UInt8.ofNat i
def Deed3.page (x : Deed3) (i : Nat) : Pg := (x.pages.getD i 0, List.replicate (if x.short = true ∧ i = 0 then 511 else 512) (x.byteAt i))
/-- Its pages. -/
def Deed3.pgs (x : Deed3) : List Pg := (List.range (min x.pages.length 102)).map x.page
theorem Deed3.pgs_length (x : Deed3) : x.pgs.length = min x.pages.length 102 := by simp [Deed3.pgs]
theorem Has.newp {w : World} {x y : Value} {t : TypeId} : Has 2 (w.alloc (.cells #[x, y] t)) (.slice (some ⟨w.heap.size, 0, none⟩) 1 1) [x, y] := by
  refine .inl ⟨w.heap.size, 0, 1, 1, rfl, rfl, Nat.le_refl _, fun j u hj => ?_⟩
  rw [cell_block (heap_alloc_new w _)]
  match j, hj with
  | 0, hj => simpa using hj
  | 1, hj => simpa using hj
/-- An own row up to a place. -/
theorem own_slcTo {w : World} {B n m : Nat} {el : TypeId} {v : Value} {xs : List Value} (h : w.ownsRow B el 1 v n xs) (hm : m ≤ n) (hn : 0 < n) :
    ∃ v', slcF 1 v none (some (.int .i64 m)) none = some v' ∧ w.ownsRow B el 1 v' m (xs.take m) := by
  obtain ⟨h1, ⟨_, h2⟩ | ⟨g, cap, cur, rfl, h2, h3, h4, h5, h6, h7⟩⟩ := h
  · omega
  · refine ⟨.slice (some ⟨g, 0, none⟩) m cap, ?_, by simp at h1 ⊢; omega, .inr ⟨g, cap, cur, rfl, h2, h3, by omega, h5, h6, ?_⟩⟩
    · simp only [slcF, slcV, bndV]
      rw [if_pos ⟨by omega, by omega⟩]
      simp [add_lit]
    · rw [← h7, List.take_take, Nat.min_eq_left (by omega), Nat.mul_one]
theorem fillF_p {a b x y : Value} : fillF #[a, b] [(0, 2, .agg #[x, y])] = some #[x, y] := by
  rw [fillF_two (by simp), fillF_nil]; simp
theorem byteAt_val (x : Deed3) (i : Nat) : (((x.byteAt i).toNat : Nat) : Int) = ((x.byte.toNat : Int) + (i : Int) % 256) % 256 := by
  simp only [Deed3.byteAt, UInt8.toNat_add, UInt8.toNat_ofNat']
  omega
set_option maxHeartbeats 1000000 in
theorem dpages_spec {w : World} {v : Value} {x : Deed3} (h : Deed3.At w v x) :
    Calls Try.prog 13 #[v] w (Ret fun r w' => FreshP w.heap.size w' r x.pgs ∧ Grow w w') := by
  obtain ⟨pv, rfl, hpv⟩ := h
  have hpc := hpv.isCell
  have hcells := agg3_cells (x := .bool x.short) (y := pv) (z := .int .u8 (x.byte.toNat : Int)) rfl hpc rfl
  have hb0 := heap_alloc_new w (.cells #[.bool x.short, pv, .int .u8 (x.byte.toNat : Int)] 32)
  have hg0 : Grow w (w.alloc (.cells #[.bool x.short, pv, .int .u8 (x.byte.toNat : Int)] 32)) := (Keep.refl _ _).alloc _
  apply enter13
  apply R_in
  simp (maxSteps := 600000) (disch := omega) only [F13, ↓sy1, sy2, sy3, readOK, sy5, sy6, Nat.reduceEqDiff, ↓reduceIte, sy7, sy8, sy9, sya, oneOf, syb, syc, Nat.reduceAdd, Nat.reduceMul, syd, sye, syf, syg, syh, reduceCtorEq, hcells]
  generalize w.alloc (.cells #[.bool x.short, pv, .int .u8 (x.byte.toNat : Int)] 32) = w0 at hb0 hg0 ⊢
  have hB0 : w.heap.size < w0.heap.size := (Array.getElem?_eq_some_iff.1 hb0).1
  generalize hB : w.heap.size = B at hb0 hB0 ⊢
  have hlen : ∀ w', lenF w' 0 pv = some (.int .i64 x.pages.length) := fun w' => hpv.lenI w'
  have hpl := x.pgs_length
  refine loop_rule (fun e w' => ∃ i : Nat, i ≤ x.pgs.length ∧ e 4 = .int .i64 i ∧ e 1 = .pointer (some ⟨B, 0, none⟩) ∧ Grow w0 w' ∧ FreshP w0.heap.size w' (e 3) (x.pgs.take i)) (fun e _ => x.pgs.length - (intOf (e 4)).toNat)
    ⟨0, by omega, by simp [upd, updO, ev], by simp [upd, updO, ev], Keep.refl _ _, by simpa [upd, updO, ev] using FreshP.nil w0.heap.size w0⟩ ?_
  rintro e w1 ⟨i, hi, e4, e1, hg1, hf1⟩
  have hc0 : ∀ {w'}, Grow w1 w' → w'.cell? ⟨B, 0, none⟩ = some (.bool x.short) ∧ w'.cell? ⟨B, 1, none⟩ = some pv ∧ w'.cell? ⟨B, 2, none⟩ = some (.int .u8 (x.byte.toNat : Int)) := fun hg => by
    have h1 := (hg1.trans hg).gheap hb0
    exact ⟨by rw [cell_block h1]; rfl, by rw [cell_block h1]; rfl, by rw [cell_block h1]; rfl⟩
  by_cases hlt : i < x.pgs.length
  · simp (maxSteps := 600000) (disch := omega) only [F13_L1, ↓sy1, sy2, sy3, readOK, sy5, sy6, Nat.reduceEqDiff, ↓reduceIte, sy7, sy8, sy9, sya, oneOf, syb, syc, Nat.reduceAdd, Nat.reduceMul, syd, sye, syf, syg, syh, reduceCtorEq, e4, e1, hc0 (Keep.refl _ _), hlen, Int.ofNat_lt, show i < x.pages.length from by omega, show ((i : Int) < 102) from by omega, decide_true]
    refine mk_rule elemB (kx := .i64) (ky := .i64) (a := 512) (c := 512) (by simp only [upd_at, Nat.reduceEqDiff, reduceIte, ev_tmp, ev_const, List.map_cons, List.map_nil]) (by simp only [upd_at, Nat.reduceEqDiff, reduceIte, ev_tmp, ev_const, List.map_cons, List.map_nil]) (by omega) (by omega) (by omega) (by omega) rfl ?_
    have hg2 : Grow w1 (w1.alloc (.cells (Array.replicate (512 : Int).toNat (.int .u8 0)) 5)) := (Keep.refl _ _).alloc _
    have ho2 := own_made w1 w1.heap.size (Nat.le_refl _) 5 (512 : Int).toNat (by decide) (.int .u8 0)
    generalize w1.alloc (.cells (Array.replicate (512 : Int).toNat (.int .u8 0)) 5) = w2 at hg2 ho2 ⊢
    rw [show (512 : Int).toNat = 512 from rfl] at ho2 ⊢
    generalize (Value.slice (some ⟨w1.heap.size, 0, none⟩) 512 512) = bv at ho2 ⊢
    simp (maxSteps := 600000) (disch := omega) only [↓sy1, sy2, sy3, readOK, sy5, sy6, Nat.reduceEqDiff, ↓reduceIte, sy7, sy8, sy9, sya, oneOf, syb, syc, Nat.reduceAdd, Nat.reduceMul, syd, sye, syf, syg, syh, reduceCtorEq, e4, e1]
    generalize hout : e 3 = out at hf1
    refine loop_rule (fun e w' => ∃ k : Nat, k ≤ 512 ∧ e 6 = .int .i64 k ∧ e 5 = bv ∧ e 4 = .int .i64 i ∧ e 1 = .pointer (some ⟨B, 0, none⟩) ∧ e 3 = out ∧ Grow w1 w' ∧
        w'.ownsRow w1.heap.size 5 1 bv 512 (List.replicate k (.int .u8 ((x.byteAt i).toNat : Int)) ++ List.replicate (512 - k) (.int .u8 0))) (fun e _ => 512 - (intOf (e 6)).toNat)
      ⟨0, by omega, by simp [upd, updO, ev], by simp [upd, updO, ev], by simp [upd, updO, ev, e4], by simp [upd, updO, ev, e1], by simp [upd, updO, ev, hout], hg2, ho2⟩ ?_
    rintro e w3 ⟨k, hk, e6, e5, e4, e1, e3, hg3, ho3⟩
    have hl5 : ∀ w', lenF w' 0 bv = some (.int .i64 512) := fun w' => by
      rw [Has.len (Has.own ho3), List.length_append, List.length_replicate, List.length_replicate, show k + (512 - k) = 512 from by omega]; rfl
    by_cases hk5 : k < 512
    · obtain ⟨a, w4, ha, hst, ho4, hk4, hbk⟩ := own_store ho3 hk5 (u := .int .u8 ((x.byteAt i).toNat : Int)) rfl
      rw [byteAt_val x i] at hst
      simp (maxSteps := 600000) (disch := omega) only [F13_L0, ↓sy1, sy2, sy3, readOK, sy5, sy6, Nat.reduceEqDiff, ↓reduceIte, sy7, sy8, sy9, sya, oneOf, syb, syc, Nat.reduceAdd, Nat.reduceMul, syd, sye, syf, syg, syh, reduceCtorEq, e6, e5, e4, e1, e3, hl5, show ((k : Int) < 512) from by omega, decide_true, hc0 hg3, ha, hst]
      have hgw : Grow w1 w4 := hg3.then hk4 (fun b hb h => by have := (World.ownsRow.lt ho3 b h).1; omega)
      refine R_out ⟨⟨k + 1, by omega, rfl, hgw, ?_⟩, by simp only [intOf]; omega⟩
      have : (List.replicate k (Value.int .u8 ((x.byteAt i).toNat : Int)) ++ List.replicate (512 - k) (Value.int .u8 0)).set k (Value.int .u8 ((x.byteAt i).toNat : Int)) = List.replicate (k + 1) (Value.int .u8 ((x.byteAt i).toNat : Int)) ++ List.replicate (512 - (k + 1)) (Value.int .u8 0) := by
        rw [List.set_append_right _ _ (by simp), List.length_replicate, Nat.sub_self, show 512 - k = (512 - (k + 1)) + 1 from by omega, List.replicate_succ, List.replicate_succ']
        simp
      rw [this] at ho4; exact ho4
    · have hke : k = 512 := by omega
      subst hke
      have hbs : List.replicate 512 (Value.int .u8 ((x.byteAt i).toNat : Int)) ++ List.replicate (512 - 512) (Value.int .u8 0) = bs (List.replicate 512 (x.byteAt i)) := by rw [Nat.sub_self, List.replicate_zero, List.append_nil, bs, List.map_replicate]
      rw [hbs] at ho3
      have hf3 := hf1.grow hg3
      obtain ⟨xs, h1, h2, h3, h4⟩ := hf3
      have hci : x.pages.getD i 0 = x.pages[i]'(by omega) := by simp [List.getD_eq_getElem?_getD, List.getElem?_eq_getElem (show i < x.pages.length by omega)]
      obtain ⟨a, ha, hac, _⟩ := (hpv.grow (hg0.trans (hg1.trans hg3))).getI (i := i) (by omega)
      rw [← hci] at hac
      have hpgi : x.pgs[i]'hlt = x.page i := by simp [Deed3.pgs]
      have htk : x.pgs.take (i + 1) = x.pgs.take i ++ [x.page i] := by rw [List.take_succ_eq_append_getElem hlt, hpgi]
      obtain ⟨u, hu, hcase⟩ : ∃ u, w3.ownsRow w1.heap.size 5 1 u (x.page i).2.length (bs (x.page i).2) ∧ ((x.short = true ∧ i = 0 ∧ slcF 1 bv none (some (.int .i64 511)) none = some u) ∨ (x.short = true ∧ ¬ ((i : Int) = 0) ∧ bv = u) ∨ (x.short = false ∧ bv = u)) := by
        by_cases hs : x.short = true ∧ i = 0
        · obtain ⟨u, hsl, hu⟩ := own_slcTo ho3 (m := 511) (by omega) (by omega)
          refine ⟨u, ?_, .inl ⟨hs.1, hs.2, hsl⟩⟩
          have h5 : (x.page i).2 = List.replicate 511 (x.byteAt i) := by simp only [Deed3.page]; rw [if_pos hs]
          rw [h5, List.length_replicate]
          have h6 : (bs (List.replicate 512 (x.byteAt i))).take 511 = bs (List.replicate 511 (x.byteAt i)) := by
            rw [bs, bs, ← List.map_take, List.take_replicate]; rfl
          rw [← h6]; exact hu
        · refine ⟨bv, ?_, by
            by_cases hsh : x.short = true
            · exact .inr (.inl ⟨hsh, fun hc => hs ⟨hsh, by omega⟩, rfl⟩)
            · exact .inr (.inr ⟨by simpa using hsh, rfl⟩)⟩
          have h5 : (x.page i).2 = List.replicate 512 (x.byteAt i) := by simp only [Deed3.page]; rw [if_neg hs]
          rw [h5, List.length_replicate]; exact ho3
      have huc := (Has.own hu).isCell
      have htl : (x.pgs.take i).length = i := by rw [List.length_take]; omega
      have h01 := hg1.size
      have h01' : w0.heap.size ≤ w1.heap.size := h01
      rw [htl] at h1
      have hgap : Grow w3 (w3.alloc (.cells #[.int .i64 (x.pages.getD i 0), u] 37)) := (Keep.refl _ _).alloc _
      have hnsz := hg3.size
      have hnil : ¬ (((512 : Nat) : Int) < 512) := by omega
      have fin : ∀ (out' : Value) (w5 : World), w5.ownsRow w0.heap.size 37 2 out' (i + 1) (xs ++ [.int .i64 (x.pages.getD i 0), u]) → (w3.alloc (.cells #[.int .i64 (x.pages.getD i 0), u] 37)).grownBy w5 out.ownBlock →
          ∃ j : Nat, j ≤ x.pgs.length ∧ (Value.int .i64 ((i : Int) + 1)) = .int .i64 j ∧ Grow w0 w5 ∧ FreshP w0.heap.size w5 out' (x.pgs.take j) := by
        intro out' w5 ho5 hg5
        have hk5 : Keep (fun b => some b = out.ownBlock) w3 w5 := (Keep.grow hgap).trans (Keep.grown hg5)
        have hne : ∀ {B' n : Nat} {u' : Value} {ys : List Value}, w3.ownsRow B' 5 1 u' n ys → ∀ b, u'.ownBlock = some b → ¬ (some b = out.ownBlock) := fun {B' n u' ys} hu' b hb hc => own_ne hu' h1 (by decide) hb hc.symm
        have hgw : Grow w0 w5 := (hg1.trans hg3).then hk5 (fun b hb hc => by have := (World.ownsRow.lt h1 b hc.symm).1; omega)
        refine ⟨i + 1, by omega, rfl, hgw, xs ++ [.int .i64 (x.pages.getD i 0), u], ?_, ?_, ?_, fun j hj => ?_⟩
        · rw [htk, List.length_append, htl]; exact ho5
        · rw [htk, List.length_append, List.length_append, h2, htl]; simp; omega
        · intro y hy
          rcases List.mem_append.1 hy with hy | hy
          · exact h3 y hy
          · simp at hy
            rcases hy with rfl | rfl
            · rfl
            · exact huc
        · have hjl : j < i + 1 := by rw [htk, List.length_append, htl] at hj; simpa using hj
          have hxl : xs.length = 2 * i := by rw [h2, htl]
          by_cases hji : j < i
          · obtain ⟨h5, u', h6, h7⟩ := h4 j (by rw [htl]; exact hji)
            have hg1 : (x.pgs.take (i + 1))[j] = (x.pgs.take i)[j]'(by rw [htl]; exact hji) := by simp
            rw [hg1, List.getElem?_append_left (by omega), List.getElem?_append_left (by omega)]
            exact ⟨h5, u', h6, own_keep h7 hk5 (hne h7)⟩
          · have hje : j = i := by omega
            subst hje
            have hg1 : (x.pgs.take (j + 1))[j] = x.page j := by simp [Deed3.pgs]
            rw [hg1, List.getElem?_append_right (by omega), List.getElem?_append_right (by omega), show 2 * j - xs.length = 0 from by omega, show 2 * j + 1 - xs.length = 1 from by omega]
            exact ⟨rfl, u, rfl, own_keep (own_base hu (by assumption)) hk5 (hne hu)⟩
      rcases hcase with ⟨hs, hi0, hsl⟩ | ⟨hs, hi0, rfl⟩ | ⟨hs, rfl⟩
      · simp (maxSteps := 600000) (disch := omega) only [F13_L0, ↓sy1, sy2, sy3, readOK, sy5, sy6, Nat.reduceEqDiff, ↓reduceIte, sy7, sy8, sy9, sya, oneOf, syb, syc, Nat.reduceAdd, Nat.reduceMul, syd, sye, syf, syg, syh, reduceCtorEq, e6, e5, e4, e1, e3, hl5, hnil, decide_true, decide_false, hc0 hg3, hs, show ((i : Int) = 0) = True from by simp [hi0], hsl, ha, hac, fill_gen, fillF_2 (a := .int .i64 0) (b := .slice none 0 0) (u := .int .i64 (x.pages.getD i 0)) rfl huc, fill_of2, fillF_p (a := .int .i64 0) (b := .slice none 0 0)]
        refine app_own elemPg (by simp only [upd_at, Nat.reduceEqDiff, reduceIte, ev_tmp, ev_const, List.map_cons, List.map_nil, e3]) (by simp only [upd_at, Nat.reduceEqDiff, reduceIte, ev_tmp, ev_const, List.map_cons, List.map_nil]) (own_keepk h1 hgap (fun _ _ => id)) Has.newp (m := 1) rfl (by simpa [isCell] using huc) (by omega) (by omega) (by have := hgap.size; omega) ?_
        intro out' w5 ho5 hg5
        simp (maxSteps := 600000) (disch := omega) only [↓sy1, sy2, sy3, readOK, sy5, sy6, Nat.reduceEqDiff, ↓reduceIte, sy7, sy8, sy9, sya, oneOf, syb, syc, Nat.reduceAdd, Nat.reduceMul, syd, sye, syf, syg, syh, reduceCtorEq, e6, e5, e4, e1, e3]
        refine R_out ⟨?_, ?_⟩
        · exact fin out' w5 ho5 hg5
        · simp only [intOf]; omega
      · simp (maxSteps := 600000) (disch := omega) only [F13_L0, ↓sy1, sy2, sy3, readOK, sy5, sy6, Nat.reduceEqDiff, ↓reduceIte, sy7, sy8, sy9, sya, oneOf, syb, syc, Nat.reduceAdd, Nat.reduceMul, syd, sye, syf, syg, syh, reduceCtorEq, e6, e5, e4, e1, e3, hl5, hnil, decide_true, decide_false, hc0 hg3, hs, hi0, ha, hac, fill_gen, fillF_2 (a := .int .i64 0) (b := .slice none 0 0) (u := .int .i64 (x.pages.getD i 0)) rfl huc, fill_of2, fillF_p (a := .int .i64 0) (b := .slice none 0 0)]
        refine app_own elemPg (by simp only [upd_at, Nat.reduceEqDiff, reduceIte, ev_tmp, ev_const, List.map_cons, List.map_nil, e3]) (by simp only [upd_at, Nat.reduceEqDiff, reduceIte, ev_tmp, ev_const, List.map_cons, List.map_nil]) (own_keepk h1 hgap (fun _ _ => id)) Has.newp (m := 1) rfl (by simpa [isCell] using huc) (by omega) (by omega) (by have := hgap.size; omega) ?_
        intro out' w5 ho5 hg5
        simp (maxSteps := 600000) (disch := omega) only [↓sy1, sy2, sy3, readOK, sy5, sy6, Nat.reduceEqDiff, ↓reduceIte, sy7, sy8, sy9, sya, oneOf, syb, syc, Nat.reduceAdd, Nat.reduceMul, syd, sye, syf, syg, syh, reduceCtorEq, e6, e5, e4, e1, e3]
        refine R_out ⟨?_, ?_⟩
        · exact fin out' w5 ho5 hg5
        · simp only [intOf]; omega
      · simp (maxSteps := 600000) (disch := omega) only [F13_L0, ↓sy1, sy2, sy3, readOK, sy5, sy6, Nat.reduceEqDiff, ↓reduceIte, sy7, sy8, sy9, sya, oneOf, syb, syc, Nat.reduceAdd, Nat.reduceMul, syd, sye, syf, syg, syh, reduceCtorEq, e6, e5, e4, e1, e3, hl5, hnil, decide_true, decide_false, hc0 hg3, hs, ha, hac, fill_gen, fillF_2 (a := .int .i64 0) (b := .slice none 0 0) (u := .int .i64 (x.pages.getD i 0)) rfl huc, fill_of2, fillF_p (a := .int .i64 0) (b := .slice none 0 0)]
        refine app_own elemPg (by simp only [upd_at, Nat.reduceEqDiff, reduceIte, ev_tmp, ev_const, List.map_cons, List.map_nil, e3]) (by simp only [upd_at, Nat.reduceEqDiff, reduceIte, ev_tmp, ev_const, List.map_cons, List.map_nil]) (own_keepk h1 hgap (fun _ _ => id)) Has.newp (m := 1) rfl (by simpa [isCell] using huc) (by omega) (by omega) (by have := hgap.size; omega) ?_
        intro out' w5 ho5 hg5
        simp (maxSteps := 600000) (disch := omega) only [↓sy1, sy2, sy3, readOK, sy5, sy6, Nat.reduceEqDiff, ↓reduceIte, sy7, sy8, sy9, sya, oneOf, syb, syc, Nat.reduceAdd, Nat.reduceMul, syd, sye, syf, syg, syh, reduceCtorEq, e6, e5, e4, e1, e3]
        refine R_out ⟨?_, ?_⟩
        · exact fin out' w5 ho5 hg5
        · simp only [intOf]; omega
  · have hie : i = x.pgs.length := by omega
    rw [hie, List.take_length] at hf1
    by_cases h1 : i < x.pages.length
    · simp (maxSteps := 600000) (disch := omega) only [F13_L1, ↓sy1, sy2, sy3, readOK, sy5, sy6, Nat.reduceEqDiff, ↓reduceIte, sy7, sy8, sy9, sya, oneOf, syb, syc, Nat.reduceAdd, Nat.reduceMul, syd, sye, syf, syg, syh, reduceCtorEq, e4, e1, hc0 (Keep.refl _ _), hlen, Int.ofNat_lt, h1, show ¬ ((i : Int) < 102) from by omega, decide_true, decide_false]
      exact R_out ⟨hf1.base (by omega), hg0.trans hg1⟩
    · simp (maxSteps := 600000) (disch := omega) only [F13_L1, ↓sy1, sy2, sy3, readOK, sy5, sy6, Nat.reduceEqDiff, ↓reduceIte, sy7, sy8, sy9, sya, oneOf, syb, syc, Nat.reduceAdd, Nat.reduceMul, syd, sye, syf, syg, syh, reduceCtorEq, e4, e1, hc0 (Keep.refl _ _), hlen, Int.ofNat_lt, h1, decide_true, decide_false, false_implies]
      exact R_out ⟨hf1.base (by omega), hg0.trans hg1⟩
end Go.Proofs.Ytneehlkofcdhoaa

/- What must be whatever is asked (logs). -/
namespace Go.Proofs.Ytneehlkofcdhoaa
open Go
set_option linter.unusedSimpArgs false
open Go.RowKit (intOf)
theorem zero_image {n i : Nat} (h : i < n) : (Dsk.zero n).image[i]? = some zsec := by
  have h1 : (Dsk.zero n).image = (Dsk.zero n).first := by
    have := (Dsk.zero n).cut_zero
    rwa [show (Dsk.zero n).cut 0 = Dsk.zero n from rfl] at this
  rw [h1, show (Dsk.zero n).first = List.replicate n zsec from rfl, List.getElem?_replicate, if_pos h]
theorem zero_len (n : Nat) : (Dsk.zero n).first.length = n := List.length_replicate
def live3 : Deed3 := ⟨false, [2, 0], 5⟩
theorem live3_pgs : live3.pgs = [(2, List.replicate 512 5), (0, List.replicate 512 6)] := by
  have h : live3.pgs = [live3.page 0, live3.page 1] := rfl
  have h0 : live3.byteAt 0 = 5 := by decide
  have h1 : live3.byteAt 1 = 6 := by decide
  have e0 : live3.page 0 = (2, List.replicate 512 5) := by unfold Deed3.page; rw [if_neg (by simp [live3]), h0]; rfl
  have e1 : live3.page 1 = (0, List.replicate 512 6) := by unfold Deed3.page; rw [if_neg (by simp [live3]), h1]; rfl
  rw [h, e0, e1]
theorem live3_good : goodP live3.pgs := by
  rw [live3_pgs]
  refine ⟨by decide, fun p hp => ?_⟩
  simp only [List.mem_cons, List.not_mem_nil, or_false] at hp
  rcases hp with rfl | rfl <;> exact List.length_replicate
theorem live3_in : ¬ anyOut 4 live3.pgs := by
  rw [live3_pgs]
  rintro ⟨p, hp, ho⟩
  simp only [List.mem_cons, List.not_mem_nil, or_false] at hp
  rcases hp with rfl | rfl <;> simp [outOf] at ho
theorem live3_code : ccode 8 3 live3.pgs = 0 := by
  have h1 : live3.pgs ≠ [] := by rw [live3_pgs]; exact List.cons_ne_nil _ _
  have h2 : live3.pgs.length = 2 := by rw [live3_pgs]; rfl
  have h3 : ¬ (min 3 100 < live3.pgs.length) := by rw [h2]; decide
  simp only [ccode, if_neg h1, if_neg h3, show 8 - 3 - 1 = 4 from rfl, if_neg live3_in, if_pos live3_good]
theorem live3_done : cdone 3 (Dsk.zero 8) live3.pgs = grouped 3 (Dsk.zero 8) (sortP live3.pgs) := by
  have h1 : live3.pgs ≠ [] := by rw [live3_pgs]; exact List.cons_ne_nil _ _
  have hf : (Dsk.zero 8).first.length = 8 := zero_len 8
  simp only [cdone, hf]
  rw [if_pos ⟨h1, live3_code⟩]
theorem live3_page : (cdone 3 (Dsk.zero 8) live3.pgs).image[3 + 1 + 0]? = some (List.replicate 512 6) := by
  have h0 : ∀ p ∈ live3.pgs, 0 ≤ p.1 := anyOut_nonneg live3_in
  have hm : ((0 : Nat), List.replicate 512 (6 : UInt8)) ∈ sortP live3.pgs := (sortP_mem h0).2 (by rw [live3_pgs]; exact List.mem_cons_of_mem _ (List.mem_cons_self ..))
  rw [live3_done]
  exact grouped_page (size := 3) (nodup_lt (sortP_rising live3_good.1 h0)) (fun p hp => by have := sortP_lt (pages := 4) h0 live3_in p hp; rw [zero_len]; omega) hm
theorem live3_ops : (cdone 3 (Dsk.zero 8) live3.pgs).ops.length = 10 := by
  rw [live3_done, grouped_ops, sortP_length, live3_pgs]; rfl
set_option maxHeartbeats 1000000 in
theorem live3_spec (w : World) : Calls Try.prog 12 #[] w (Ret fun v w' => v = .bool true ∧ Grow w w') := by
  apply enter12
  apply R_in
  simp (maxSteps := 600000) (disch := omega) only [F12, ↓sy1, sy2, sy3, readOK, sy5, sy6, Nat.reduceEqDiff, ↓reduceIte, sy7, sy8, sy9, sya, oneOf, syb, syc, Nat.reduceAdd, Nat.reduceMul, syd, sye, syf, syg, syh, reduceCtorEq]
  refine call0 (new_spec G00 1 (n := 8) (by omega) (by omega)) ?_
  rintro _ w1 ⟨p, G1, rfl, hp1, hd1, hx1⟩
  simp (maxSteps := 600000) (disch := omega) only [↓sy1, sy2, sy3, readOK, sy5, sy6, Nat.reduceEqDiff, ↓reduceIte, sy7, sy8, sy9, sya, oneOf, syb, syc, Nat.reduceAdd, Nat.reduceMul, syd, sye, syf, syg, syh, reduceCtorEq]
  refine call0 (open_spec (size := 3) 2 (by omega) hd1 (by omega) (by rw [zero_len]; omega) (.inl (zero_image (by omega)))) ?_
  rintro _ w2 ⟨q, G2, rfl, hq2, hl2, hx2⟩
  simp (maxSteps := 600000) (disch := omega) only [↓sy1, sy2, sy3, readOK, sy5, sy6, Nat.reduceEqDiff, ↓reduceIte, sy7, sy8, sy9, sya, oneOf, syb, syc, Nat.reduceAdd, Nat.reduceMul, syd, sye, syf, syg, syh, reduceCtorEq, fill_gen, fillF_2 (a := .int .i64 0) (b := .int .i64 0) (u := .int .i64 2) (v := .int .i64 0) rfl rfl, fillF_2of3 (a := .bool false) (b := .slice none 0 0) (c := .int .u8 0) (x := .slice (some ⟨w2.heap.size, 0, none⟩) 2 2) (y := .int .u8 5) rfl rfl]
  have hga : Grow w2 (w2.alloc (.cells #[.int .i64 2, .int .i64 0] 3)) := (Keep.refl _ _).alloc _
  have hia : HasI (w2.alloc (.cells #[.int .i64 2, .int .i64 0] 3)) (.slice (some ⟨w2.heap.size, 0, none⟩) 2 2) [2, 0] := Has.new2
  generalize w2.alloc (.cells #[.int .i64 2, .int .i64 0] 3) = w3 at hga hia ⊢
  refine call0 (dpages_spec (x := live3) ⟨_, rfl, .inl hia⟩) ?_
  rintro pv w4 ⟨hpv, hg4⟩
  have hx4 : Ext0 G2 w2 (G2.new w2.heap.size) w4 := .newB (hga.trans hg4)
  have hl4 := hl2.ext hx4 id id
  obtain ⟨xs, hps⟩ := hpv.held (G := G2.new w2.heap.size) (κ := 2) (fun b hb => by rw [Gh.new_own (Nat.le_trans hga.size hb)]; omega)
  simp (maxSteps := 600000) (disch := omega) only [↓sy1, sy2, sy3, readOK, sy5, sy6, Nat.reduceEqDiff, ↓reduceIte, sy7, sy8, sy9, sya, oneOf, syb, syc, Nat.reduceAdd, Nat.reduceMul, syd, sye, syf, syg, syh, reduceCtorEq]
  refine call0 (commit_spec hl4 hps (by rw [live3_pgs]; decide) (by show 0 < 700000; omega)) ?_
  rintro _ w5 ⟨rfl, G5, hl5, hx5⟩
  have hf : (Dsk.zero 8).first.length = 8 := zero_len 8
  have hff : (cdone 3 (Dsk.zero 8) live3.pgs).first.length = 8 := by rw [cdone_first, hf]
  rw [hf, live3_code]
  simp (maxSteps := 600000) (disch := omega) only [↓sy1, sy2, sy3, readOK, sy5, sy6, Nat.reduceEqDiff, ↓reduceIte, sy7, sy8, sy9, sya, oneOf, syb, syc, Nat.reduceAdd, Nat.reduceMul, syd, sye, syf, syg, syh, reduceCtorEq]
  refine call0 (lread_spec (n := 0) hl5 (by omega)) ?_
  rintro _ w6 ⟨u, rfl, hu, hg6⟩
  have hpage := live3_page
  have hpg : (cdone 3 (Dsk.zero 8) live3.pgs).image[3 + 1 + 0]'(by rw [Dsk.image_length, hff]; omega) = List.replicate 512 6 := by
    rw [List.getElem?_eq_getElem (by rw [Dsk.image_length, hff]; omega)] at hpage; exact Option.some.inj hpage
  rw [hpg] at hu
  have hul : ∀ w', lenF w' 0 u = some (.int .i64 512) := fun w' => by rw [Has.lenB (Has.own hu), List.length_replicate]; rfl
  obtain ⟨a, ha, hac, _⟩ := Has.getB (Has.own hu) (i := 0) (by rw [List.length_replicate]; omega)
  have hz : (List.replicate 512 (6 : UInt8))[0]'(by rw [List.length_replicate]; omega) = 6 := List.getElem_replicate ..
  rw [hz] at hac
  have ha' : iaF 1 u (.int .i64 0) = some (.pointer (some a)) := ha
  simp (maxSteps := 600000) (disch := omega) only [↓sy1, sy2, sy3, readOK, sy5, sy6, Nat.reduceEqDiff, ↓reduceIte, sy7, sy8, sy9, sya, oneOf, syb, syc, Nat.reduceAdd, Nat.reduceMul, syd, sye, syf, syg, syh, reduceCtorEq]
  refine call0 (capacity_spec (hl5.grow hg6)) ?_
  rintro _ w7 ⟨rfl, rfl⟩
  simp (maxSteps := 600000) (disch := omega) only [↓sy1, sy2, sy3, readOK, sy5, sy6, Nat.reduceEqDiff, ↓reduceIte, sy7, sy8, sy9, sya, oneOf, syb, syc, Nat.reduceAdd, Nat.reduceMul, syd, sye, syf, syg, syh, reduceCtorEq, show (((min 3 100 : Nat) : Int) = 3) = True from by decide, decide_true]
  refine call0 (pages_spec (hl5.grow hg6)) ?_
  rintro _ w7 ⟨rfl, hg7⟩
  rw [hff]
  simp (maxSteps := 600000) (disch := omega) only [↓sy1, sy2, sy3, readOK, sy5, sy6, Nat.reduceEqDiff, ↓reduceIte, sy7, sy8, sy9, sya, oneOf, syb, syc, Nat.reduceAdd, Nat.reduceMul, syd, sye, syf, syg, syh, reduceCtorEq, show (((8 - 3 - 1 : Nat) : Int) = 4) = True from by decide, decide_true, hul, ha', hg7.gcell hac, show (((6 : UInt8).toNat : Int) = 6) = True from by decide]
  refine call0 (ldisk_spec 3 ((hl5.grow hg6).grow hg7)) ?_
  rintro _ w8 ⟨p8, G8, rfl, _, hd8, hx8⟩
  simp (maxSteps := 600000) (disch := omega) only [↓sy1, sy2, sy3, readOK, sy5, sy6, Nat.reduceEqDiff, ↓reduceIte, sy7, sy8, sy9, sya, oneOf, syb, syc, Nat.reduceAdd, Nat.reduceMul, syd, sye, syf, syg, syh, reduceCtorEq]
  refine call0 (ops_spec hd8) ?_
  rintro _ w9 ⟨rfl, rfl⟩
  rw [live3_ops]
  simp (maxSteps := 600000) (disch := omega) only [↓sy1, sy2, sy3, readOK, sy5, sy6, Nat.reduceEqDiff, ↓reduceIte, sy7, sy8, sy9, sya, oneOf, syb, syc, Nat.reduceAdd, Nat.reduceMul, syd, sye, syf, syg, syh, reduceCtorEq, show (((10 : Nat) : Int) = 10) = True from by decide, decide_true]
  have hxa : Ext (fun c => c = 2) G00 w G8 _ := (((((hx1.trans hx2).trans hx4).mono (fun _ h => h.elim)).trans hx5).trans ((Ext.grow (hg6.trans hg7)))).trans (hx8.mono (fun _ h => h.elim))
  exact R_out (hxa.toGrow (by omega))
end Go.Proofs.Ytneehlkofcdhoaa

/- The reference's log: a fork of its disk, what it tells, open over an empty disk. -/
namespace Go.Proofs.Ytneehlkofcdhoaa
open Go
set_option linter.unusedSimpArgs false
open Go.RowKit (intOf)
theorem rfork_nil {w : World} : Calls Try.prog 67 #[.pointer none] w (Ret fun v w' => v = .pointer none ∧ w' = w) := by
  apply enter67
  apply R_in
  simp (maxSteps := 600000) (disch := omega) only [F67, ↓sy1, sy2, sy3, readOK, sy5, sy6, Nat.reduceEqDiff, ↓reduceIte, sy7, sy8, sy9, sya, oneOf, syb, syc, Nat.reduceAdd, Nat.reduceMul, syd, sye, syf, syg, syh, reduceCtorEq]
  exact R_out trivial
theorem rfork_spec {G : Gh} {κ : Nat} {w : World} {p : Nat} {D : Dsk} (κ' : Nat) (h : RefAt G κ w p D) :
    Calls Try.prog 67 #[.pointer (some ⟨p, 0, none⟩)] w (Ret fun v w' => ∃ q G', v = .pointer (some ⟨q, 0, none⟩) ∧ w.heap.size ≤ q ∧ RefAt G' κ' w' q D ∧ Ext0 G w G' w') := by
  obtain ⟨hok, hl, vf, vl, xs, hp, hown, hf, h1, h2, h3⟩ := h
  have hcf := h1.has.choose_spec.1.isCell
  have hcl := h2.1.isCell
  apply enter67
  apply R_in
  simp (maxSteps := 600000) (disch := omega) only [F67, ↓sy1, sy2, sy3, readOK, sy5, sy6, Nat.reduceEqDiff, ↓reduceIte, sy7, sy8, sy9, sya, oneOf, syb, syc, Nat.reduceAdd, Nat.reduceMul, syd, sye, syf, syg, syh, reduceCtorEq]
  refine draw67_0 (fun _ => False) ?_
  have hgd : Grow w w.drew := (Keep.refl _ _).drew
  generalize w.drew = w1 at hgd ⊢
  have hp1 := hgd.gheap hp
  have hc0 : w1.cell? ⟨p, 0, none⟩ = some vf := by rw [cell_block hp1]; rfl
  have hc1 : w1.cell? ⟨p, 1, none⟩ = some vl := by rw [cell_block hp1]; rfl
  simp (maxSteps := 600000) (disch := omega) only [PL67_0, ↓sy1, sy2, sy3, readOK, sy5, sy6, Nat.reduceEqDiff, ↓reduceIte, sy7, sy8, sy9, sya, oneOf, syb, syc, Nat.reduceAdd, Nat.reduceMul, syd, sye, syf, syg, syh, reduceCtorEq, hc0, hc1, fill_gen, fillF_2 (a := .slice none 0 0) (b := .slice none 0 0) hcf hcl, agg2_cells hcf hcl]
  have hg2 : Grow w1 (w1.alloc (.cells #[vf, vl] 106)) := (Keep.refl _ _).alloc _
  have hb2 := heap_alloc_new w1 (.cells #[vf, vl] 106)
  generalize w1.alloc (.cells #[vf, vl] 106) = w2 at hg2 hb2 ⊢
  have hgw := hgd.trans hg2
  have hx : Ext0 G w (G.upto w.heap.size (fun _ => κ') (fun _ => 0)) w2 := .upto hgw _ _
  have hsz := hgd.size
  refine R_out ⟨_, G.upto w.heap.size (fun _ => κ') (fun _ => 0), rfl, hsz, ⟨hok, hl, vf, vl, xs, hb2, by simp [Gh.upto, Nat.not_lt.2 hsz], by simp [Gh.upto, Nat.not_lt.2 hsz], h1.ext hx, h2.ext hx, h3.ext hx⟩, hx⟩
/-- The reference's log at block q, over a disk of owner κ. -/
def RLogAt (G : Gh) (κ : Nat) (w : World) (q : Nat) (size came : Nat) (D : Dsk) : Prop :=
  κ ≠ 0 ∧ 1 ≤ size ∧ size + 2 ≤ D.first.length ∧ G.own q = 0 ∧ ∃ p, w.heap[q]? = some (.cells #[.pointer (some ⟨p, 0, none⟩), .int .i64 size, .int .i64 came] 98 (0, 0)) ∧ RefAt G κ w p D
theorem RLogAt.ext {K : Nat → Prop} {G G' : Gh} {κ : Nat} {w w' : World} {q size came : Nat} {D : Dsk} (h : RLogAt G κ w q size came D) (hx : Ext K G w G' w') (hk : ¬ K κ) (h0 : ¬ K 0) : RLogAt G' κ w' q size came D := by
  obtain ⟨h1, h2, h3, h4, p, h5, h6⟩ := h
  exact ⟨h1, h2, h3, by rw [hx.own q (hx.lt h5)]; exact h4, p, hx.heap h5 (by rw [h4]; exact h0), h6.ext hx hk⟩
theorem RLogAt.grow {G : Gh} {κ : Nat} {w w' : World} {q size came : Nat} {D : Dsk} (h : RLogAt G κ w q size came D) (hg : Grow w w') : RLogAt G κ w' q size came D := h.ext (K := fun _ => False) (.grow hg) id id
theorem RLogAt.put {G G' : Gh} {κ : Nat} {w w' : World} {q size came p : Nat} {D E : Dsk} (h : RLogAt G κ w q size came D) (hp : w.cell? ⟨q, 0, none⟩ = some (.pointer (some ⟨p, 0, none⟩))) (hx : Ext (fun c => c = κ) G w G' w') (hE : E.first = D.first) (hd : RefAt G' κ w' p E) : RLogAt G' κ w' q size came E := by
  obtain ⟨h1, h2, h3, h4, p', h5, h6⟩ := h
  have : w.cell? ⟨q, 0, none⟩ = some (.pointer (some ⟨p', 0, none⟩)) := by rw [cell_block h5]; rfl
  rw [this] at hp; cases hp
  exact ⟨h1, h2, by rw [hE]; exact h3, by rw [hx.own q (hx.lt h5)]; exact h4, p, hx.heap h5 (by rw [h4]; exact fun h => h1 h.symm), hd⟩
theorem RLogAt.cells {G : Gh} {κ : Nat} {w : World} {q size came : Nat} {D : Dsk} (h : RLogAt G κ w q size came D) :
    ∃ p, RefAt G κ w p D ∧ ∀ {w'}, Grow w w' → w'.cell? ⟨q, 0, none⟩ = some (.pointer (some ⟨p, 0, none⟩)) ∧ w'.cell? ⟨q, 1, none⟩ = some (.int .i64 size) ∧ w'.cell? ⟨q, 2, none⟩ = some (.int .i64 came) := by
  obtain ⟨hκ, hs1, hs2, ho0, p, hq, hd⟩ := h
  exact ⟨p, hd, fun hg => ⟨by rw [cell_block (hg.gheap hq)]; rfl, by rw [cell_block (hg.gheap hq)]; rfl, by rw [cell_block (hg.gheap hq)]; rfl⟩⟩
theorem rhead0_spec {w : World} {q p size came : Nat} {D : Dsk} {G : Gh} {κ : Nat} (hq : w.heap[q]? = some (.cells #[.pointer (some ⟨p, 0, none⟩), .int .i64 size, .int .i64 came] 98 (0, 0))) (h : RefAt G κ w p D) (hs : 0 < D.first.length) (hh : D.image[0]? = some zsec) :
    Calls Try.prog 72 #[.pointer (some ⟨q, 0, none⟩)] w (Ret fun v w' => v = .tuple #[.slice none 0 0, .bool true] ∧ Grow w w') := by
  have hc0 : w.cell? ⟨q, 0, none⟩ = some (.pointer (some ⟨p, 0, none⟩)) := by rw [cell_block hq]; rfl
  apply enter72
  apply R_in
  simp (maxSteps := 600000) (disch := omega) only [F72, ↓sy1, sy2, sy3, readOK, sy5, sy6, Nat.reduceEqDiff, ↓reduceIte, sy7, sy8, sy9, sya, oneOf, syb, syc, Nat.reduceAdd, Nat.reduceMul, syd, sye, syf, syg, syh, reduceCtorEq, hc0]
  refine call0 (rread_spec h (n := 0) hs) ?_
  rintro _ w1 ⟨u, rfl, hu, hg⟩
  have hz : D.image[0]'(by rw [D.image_length]; exact hs) = zsec := by
    rw [List.getElem?_eq_getElem (by rw [D.image_length]; exact hs)] at hh; exact Option.some.inj hh
  rw [hz] at hu
  have hlz : zsec.length = 512 := List.length_replicate
  have hul : ∀ w', lenF w' 0 u = some (.int .i64 512) := fun w' => by rw [hu.lenB, hlz]; rfl
  simp (maxSteps := 600000) (disch := omega) only [↓sy1, sy2, sy3, readOK, sy5, sy6, Nat.reduceEqDiff, ↓reduceIte, sy7, sy8, sy9, sya, oneOf, syb, syc, Nat.reduceAdd, Nat.reduceMul, syd, sye, syf, syg, syh, reduceCtorEq]
  refine loop_rule (fun e w' => ∃ i : Nat, i ≤ 512 ∧ e 7 = .int .i64 i ∧ e 6 = .bool true ∧ e 4 = u ∧ w' = w1) (fun e _ => 512 - (intOf (e 7)).toNat)
    ⟨0, by omega, by simp [upd, updO, ev], by simp [upd, updO, ev], by simp [upd, updO, ev], rfl⟩ ?_
  rintro e w2 ⟨i, hi, e7, e6, e4, rfl⟩
  by_cases hlt : i < 512
  · obtain ⟨a, ha, hac, _⟩ := hu.getB (i := i) (by omega)
    have hzi : zsec[i]'(by omega) = 0 := List.getElem_replicate ..
    rw [hzi] at hac
    simp (maxSteps := 600000) (disch := omega) only [F72_L0, ↓sy1, sy2, sy3, readOK, sy5, sy6, Nat.reduceEqDiff, ↓reduceIte, sy7, sy8, sy9, sya, oneOf, syb, syc, Nat.reduceAdd, Nat.reduceMul, syd, sye, syf, syg, syh, reduceCtorEq, e7, e6, e4, hul, show ((i : Int) < 512) from by omega, decide_true, ha, hac, show (((0 : UInt8).toNat : Int) = 0) = True from by simp]
    refine R_out ⟨⟨i + 1, by omega, rfl⟩, ?_⟩
    simp only [intOf]; omega
  · simp (maxSteps := 600000) (disch := omega) only [F72_L0, ↓sy1, sy2, sy3, readOK, sy5, sy6, Nat.reduceEqDiff, ↓reduceIte, sy7, sy8, sy9, sya, oneOf, syb, syc, Nat.reduceAdd, Nat.reduceMul, syd, sye, syf, syg, syh, reduceCtorEq, e7, e6, e4, hul, show ¬ ((i : Int) < 512) from by omega, decide_false]
    exact R_out hg
theorem fillF_rlog {a b c x y : Value} (hx : isCell x = true) (hy : isCell y = true) : fillF #[a, b, c] [(0, 1, x), (1, 1, y)] = some #[x, y, c] := by
  rw [fillF_cell hx (by simp), fillF_cell hy (by simp), fillF_nil]; simp
theorem ropen_nil {w : World} {n : Int} : Calls Try.prog 38 #[.pointer none, .int .i64 n] w (Ret fun v w' => v = .tuple #[.pointer none, .int .i64 1] ∧ w' = w) := by
  apply enter38
  apply R_in
  simp (maxSteps := 600000) (disch := omega) only [F38, ↓sy1, sy2, sy3, readOK, sy5, sy6, Nat.reduceEqDiff, ↓reduceIte, sy7, sy8, sy9, sya, oneOf, syb, syc, Nat.reduceAdd, Nat.reduceMul, syd, sye, syf, syg, syh, reduceCtorEq]
  exact R_out trivial
theorem ropen_bad {G : Gh} {κ : Nat} {w : World} {p : Nat} {n : Int} {D : Dsk} (h : RefAt G κ w p D) (hn : n < 1 ∨ (D.first.length : Int) - 2 < n) :
    Calls Try.prog 38 #[.pointer (some ⟨p, 0, none⟩), .int .i64 n] w (Ret fun v w' => v = .tuple #[.pointer none, .int .i64 2] ∧ w' = w) := by
  have hmost := h.ok.most
  apply enter38
  apply R_in
  by_cases h1 : n < 1
  · simp (maxSteps := 600000) (disch := omega) only [F38, ↓sy1, sy2, sy3, readOK, sy5, sy6, Nat.reduceEqDiff, ↓reduceIte, sy7, sy8, sy9, sya, oneOf, syb, syc, Nat.reduceAdd, Nat.reduceMul, syd, sye, syf, syg, syh, reduceCtorEq, h1, decide_true]
    exact R_out trivial
  · simp (maxSteps := 600000) (disch := omega) only [F38, ↓sy1, sy2, sy3, readOK, sy5, sy6, Nat.reduceEqDiff, ↓reduceIte, sy7, sy8, sy9, sya, oneOf, syb, syc, Nat.reduceAdd, Nat.reduceMul, syd, sye, syf, syg, syh, reduceCtorEq, h1, decide_false]
    refine call0 (rsectors_spec h) ?_
    rintro _ w1 ⟨rfl, rfl⟩
    simp (maxSteps := 600000) (disch := omega) only [↓sy1, sy2, sy3, readOK, sy5, sy6, Nat.reduceEqDiff, ↓reduceIte, sy7, sy8, sy9, sya, oneOf, syb, syc, Nat.reduceAdd, Nat.reduceMul, syd, sye, syf, syg, syh, reduceCtorEq, show ((D.first.length : Int) - 2 < n) from by omega, decide_true]
    exact R_out trivial
theorem ropen0_spec {G : Gh} {κ : Nat} {w : World} {p size : Nat} {D : Dsk} (κ' : Nat) (hκ : κ' ≠ 0) (h : RefAt G κ w p D) (h1 : 1 ≤ size) (h2 : size + 2 ≤ D.first.length) (hh : D.image[0]? = some zsec) :
    Calls Try.prog 38 #[.pointer (some ⟨p, 0, none⟩), .int .i64 size] w (Ret fun v w' => ∃ q G', v = .tuple #[.pointer (some ⟨q, 0, none⟩), .int .i64 0] ∧ w.heap.size ≤ q ∧ RLogAt G' κ' w' q size 0 D ∧ Ext0 G w G' w') := by
  have hmost := h.ok.most
  apply enter38
  apply R_in
  simp (maxSteps := 600000) (disch := omega) only [F38, ↓sy1, sy2, sy3, readOK, sy5, sy6, Nat.reduceEqDiff, ↓reduceIte, sy7, sy8, sy9, sya, oneOf, syb, syc, Nat.reduceAdd, Nat.reduceMul, syd, sye, syf, syg, syh, reduceCtorEq, show ¬ ((size : Int) < 1) from by omega, decide_false]
  refine call0 (rsectors_spec h) ?_
  rintro _ w1 ⟨rfl, rfl⟩
  simp (maxSteps := 600000) (disch := omega) only [↓sy1, sy2, sy3, readOK, sy5, sy6, Nat.reduceEqDiff, ↓reduceIte, sy7, sy8, sy9, sya, oneOf, syb, syc, Nat.reduceAdd, Nat.reduceMul, syd, sye, syf, syg, syh, reduceCtorEq, show ¬ ((D.first.length : Int) - 2 < (size : Int)) from by omega, decide_false]
  refine call0 (rfork_spec κ' h) ?_
  rintro _ w2 ⟨p2, G2, rfl, hp2, hd2, hx2⟩
  have hsz2 := hx2.size
  simp (maxSteps := 600000) (disch := omega) only [↓sy1, sy2, sy3, readOK, sy5, sy6, Nat.reduceEqDiff, ↓reduceIte, sy7, sy8, sy9, sya, oneOf, syb, syc, Nat.reduceAdd, Nat.reduceMul, syd, sye, syf, syg, syh, reduceCtorEq, fill_gen, List.map_cons, List.map_nil, fillF_rlog (a := .pointer none) (b := .int .i64 0) (c := .int .i64 0) (x := .pointer (some ⟨p2, 0, none⟩)) (y := .int .i64 size) rfl rfl, agg3_cells (x := .pointer (some ⟨p2, 0, none⟩)) (y := .int .i64 size) (z := .int .i64 0) rfl rfl rfl]
  have hg3 : Grow w2 (w2.alloc (.cells #[.pointer (some ⟨p2, 0, none⟩), .int .i64 size, .int .i64 0] 98)) := (Keep.refl _ _).alloc _
  have hb3 := heap_alloc_new w2 (.cells #[.pointer (some ⟨p2, 0, none⟩), .int .i64 size, .int .i64 0] 98)
  generalize w2.alloc (.cells #[.pointer (some ⟨p2, 0, none⟩), .int .i64 size, .int .i64 0] 98) = w3 at hg3 hb3 ⊢
  refine call0 (rhead0_spec (came := 0) hb3 (hd2.grow hg3) (by omega) hh) ?_
  rintro _ w4 ⟨rfl, hg4⟩
  have hnl : ∀ w', lenF w' 0 (.slice none 0 0) = some (.int .i64 0) := fun w' => rfl
  simp (maxSteps := 600000) (disch := omega) only [↓sy1, sy2, sy3, readOK, sy5, sy6, Nat.reduceEqDiff, ↓reduceIte, sy7, sy8, sy9, sya, oneOf, syb, syc, Nat.reduceAdd, Nat.reduceMul, syd, sye, syf, syg, syh, reduceCtorEq, hnl, show ¬ ((0 : Int) < 0) from by omega, decide_false]
  have hx4 : Ext0 G2 w2 (G2.new w2.heap.size) w4 := .newB (hg3.trans hg4)
  exact R_out ⟨_, G2.new w2.heap.size, rfl, by omega, ⟨hκ, h1, h2, Gh.new_own (Nat.le_refl _), p2, hg4.gheap hb3, hd2.ext hx4 id⟩, hx2.trans hx4⟩
end Go.Proofs.Ytneehlkofcdhoaa

/- Logs over a new disk: the program's and the reference's. -/
namespace Go.Proofs.Ytneehlkofcdhoaa
open Go
set_option linter.unusedSimpArgs false
open Go.RowKit (intOf)
/-- No log. -/
theorem lopen_none {w : World} {n size : Int} (h : ¬ ((1 ≤ n ∧ n ≤ 4096) ∧ (1 ≤ size ∧ size ≤ n - 2))) :
    Calls Try.prog 11 #[.int .i64 n, .int .i64 size] w (Ret fun v w' => v = .tuple #[.pointer none, .pointer none, .bool true] ∧ Grow w w') := by
  apply enter11
  apply R_in
  by_cases hn : 1 ≤ n ∧ n ≤ 4096
  · have hsz : size < 1 ∨ n - 2 < size := by omega
    obtain ⟨m, rfl⟩ : ∃ m : Nat, n = m := ⟨n.toNat, by omega⟩
    simp (maxSteps := 600000) (disch := omega) only [F11, ↓sy1, sy2, sy3, readOK, sy5, sy6, Nat.reduceEqDiff, ↓reduceIte, sy7, sy8, sy9, sya, oneOf, syb, syc, Nat.reduceAdd, Nat.reduceMul, syd, sye, syf, syg, syh, reduceCtorEq]
    refine call0 (new_spec G00 1 (n := m) (by omega) (by omega)) ?_
    rintro _ w1 ⟨p, G1, rfl, hp1, hd1, hx1⟩
    simp (maxSteps := 600000) (disch := omega) only [↓sy1, sy2, sy3, readOK, sy5, sy6, Nat.reduceEqDiff, ↓reduceIte, sy7, sy8, sy9, sya, oneOf, syb, syc, Nat.reduceAdd, Nat.reduceMul, syd, sye, syf, syg, syh, reduceCtorEq]
    refine call0 (rnew_spec G1 2 (n := m) (by omega) (by omega)) ?_
    rintro _ w2 ⟨r, G2, rfl, hr1, hr2, hx2⟩
    simp (maxSteps := 600000) (disch := omega) only [↓sy1, sy2, sy3, readOK, sy5, sy6, Nat.reduceEqDiff, ↓reduceIte, sy7, sy8, sy9, sya, oneOf, syb, syc, Nat.reduceAdd, Nat.reduceMul, syd, sye, syf, syg, syh, reduceCtorEq, decide_true, Bool.not_true]
    refine call0 (open_bad (hd1.ext hx2 id) (by rw [zero_len]; exact hsz)) ?_
    rintro _ w3 ⟨rfl, rfl⟩
    simp (maxSteps := 600000) (disch := omega) only [↓sy1, sy2, sy3, readOK, sy5, sy6, Nat.reduceEqDiff, ↓reduceIte, sy7, sy8, sy9, sya, oneOf, syb, syc, Nat.reduceAdd, Nat.reduceMul, syd, sye, syf, syg, syh, reduceCtorEq]
    refine call0 (ropen_bad hr2 (by rw [zero_len]; exact hsz)) ?_
    rintro _ w3 ⟨rfl, rfl⟩
    simp (maxSteps := 600000) (disch := omega) only [↓sy1, sy2, sy3, readOK, sy5, sy6, Nat.reduceEqDiff, ↓reduceIte, sy7, sy8, sy9, sya, oneOf, syb, syc, Nat.reduceAdd, Nat.reduceMul, syd, sye, syf, syg, syh, reduceCtorEq, decide_true, beq_self_eq_true]
    exact R_out (((hx1.trans hx2).mono (fun _ h => h.elim)).toGrow (κ := fun _ => False) id)
  · have hb : n < 1 ∨ 4096 < n := by omega
    simp (maxSteps := 600000) (disch := omega) only [F11, ↓sy1, sy2, sy3, readOK, sy5, sy6, Nat.reduceEqDiff, ↓reduceIte, sy7, sy8, sy9, sya, oneOf, syb, syc, Nat.reduceAdd, Nat.reduceMul, syd, sye, syf, syg, syh, reduceCtorEq]
    refine call0 (new_bad hb) ?_
    rintro _ w1 ⟨rfl, rfl⟩
    simp (maxSteps := 600000) (disch := omega) only [↓sy1, sy2, sy3, readOK, sy5, sy6, Nat.reduceEqDiff, ↓reduceIte, sy7, sy8, sy9, sya, oneOf, syb, syc, Nat.reduceAdd, Nat.reduceMul, syd, sye, syf, syg, syh, reduceCtorEq]
    refine call0 (rnew_bad hb) ?_
    rintro _ w2 ⟨rfl, rfl⟩
    simp (maxSteps := 600000) (disch := omega) only [↓sy1, sy2, sy3, readOK, sy5, sy6, Nat.reduceEqDiff, ↓reduceIte, sy7, sy8, sy9, sya, oneOf, syb, syc, Nat.reduceAdd, Nat.reduceMul, syd, sye, syf, syg, syh, reduceCtorEq, decide_true, Bool.not_true]
    refine call0 open_nil ?_
    rintro _ w3 ⟨rfl, rfl⟩
    simp (maxSteps := 600000) (disch := omega) only [↓sy1, sy2, sy3, readOK, sy5, sy6, Nat.reduceEqDiff, ↓reduceIte, sy7, sy8, sy9, sya, oneOf, syb, syc, Nat.reduceAdd, Nat.reduceMul, syd, sye, syf, syg, syh, reduceCtorEq]
    refine call0 ropen_nil ?_
    rintro _ w3 ⟨rfl, rfl⟩
    simp (maxSteps := 600000) (disch := omega) only [↓sy1, sy2, sy3, readOK, sy5, sy6, Nat.reduceEqDiff, ↓reduceIte, sy7, sy8, sy9, sya, oneOf, syb, syc, Nat.reduceAdd, Nat.reduceMul, syd, sye, syf, syg, syh, reduceCtorEq, decide_true, beq_self_eq_true]
    exact R_out (Keep.refl _ _)
/-- Both logs. -/
theorem lopen_spec {G : Gh} {w : World} {n size : Nat} (κ κ' : Nat) (hκ : κ ≠ 0) (hκ' : κ' ≠ 0) (hn : n ≤ 4096) (h1 : 1 ≤ size) (h2 : size + 2 ≤ n) :
    Calls Try.prog 11 #[.int .i64 n, .int .i64 size] w (Ret fun v w' => ∃ q r G', v = .tuple #[.pointer (some ⟨q, 0, none⟩), .pointer (some ⟨r, 0, none⟩), .bool true] ∧ w.heap.size ≤ q ∧ LogAt G' κ w' q size 0 (Dsk.zero n) ∧ RLogAt G' κ' w' r size 0 (Dsk.zero n) ∧ Ext0 G w G' w') := by
  apply enter11
  apply R_in
  simp (maxSteps := 600000) (disch := omega) only [F11, ↓sy1, sy2, sy3, readOK, sy5, sy6, Nat.reduceEqDiff, ↓reduceIte, sy7, sy8, sy9, sya, oneOf, syb, syc, Nat.reduceAdd, Nat.reduceMul, syd, sye, syf, syg, syh, reduceCtorEq]
  refine call0 (new_spec G 1 (n := n) (by omega) hn) ?_
  rintro _ w1 ⟨p, G1, rfl, hp1, hd1, hx1⟩
  simp (maxSteps := 600000) (disch := omega) only [↓sy1, sy2, sy3, readOK, sy5, sy6, Nat.reduceEqDiff, ↓reduceIte, sy7, sy8, sy9, sya, oneOf, syb, syc, Nat.reduceAdd, Nat.reduceMul, syd, sye, syf, syg, syh, reduceCtorEq]
  refine call0 (rnew_spec G1 2 (n := n) (by omega) hn) ?_
  rintro _ w2 ⟨r, G2, rfl, hr1, hr2, hx2⟩
  simp (maxSteps := 600000) (disch := omega) only [↓sy1, sy2, sy3, readOK, sy5, sy6, Nat.reduceEqDiff, ↓reduceIte, sy7, sy8, sy9, sya, oneOf, syb, syc, Nat.reduceAdd, Nat.reduceMul, syd, sye, syf, syg, syh, reduceCtorEq, decide_true, Bool.not_true]
  refine call0 (open_spec κ hκ (hd1.ext hx2 id) h1 (by rw [zero_len]; exact h2) (.inl (zero_image (by omega)))) ?_
  rintro _ w3 ⟨q, G3, rfl, hq3, hl3, hx3⟩
  simp (maxSteps := 600000) (disch := omega) only [↓sy1, sy2, sy3, readOK, sy5, sy6, Nat.reduceEqDiff, ↓reduceIte, sy7, sy8, sy9, sya, oneOf, syb, syc, Nat.reduceAdd, Nat.reduceMul, syd, sye, syf, syg, syh, reduceCtorEq]
  refine call0 (ropen0_spec κ' hκ' (hr2.ext hx3 id) h1 (by rw [zero_len]; exact h2) (zero_image (by omega))) ?_
  rintro _ w4 ⟨r4, G4, rfl, hr4, hl4, hx4⟩
  simp (maxSteps := 600000) (disch := omega) only [↓sy1, sy2, sy3, readOK, sy5, sy6, Nat.reduceEqDiff, ↓reduceIte, sy7, sy8, sy9, sya, oneOf, syb, syc, Nat.reduceAdd, Nat.reduceMul, syd, sye, syf, syg, syh, reduceCtorEq, decide_true, beq_self_eq_true]
  have hs := (hx1.trans hx2).size
  exact R_out ⟨q, r4, G4, rfl, by omega, hl3.ext hx4 id id, hl4, ((hx1.trans hx2).trans hx3).trans hx4⟩
end Go.Proofs.Ytneehlkofcdhoaa

/- Deeds in memory; all pages; groups one after the other. -/
namespace Go.Proofs.Ytneehlkofcdhoaa
open Go
set_option linter.unusedSimpArgs false
open Go.RowKit (intOf)
def DeedsAt (w : World) (v : Value) (l : List Deed3) : Prop :=
  ∃ xs, Has 3 w v xs ∧ xs.length = 3 * l.length ∧ ∀ i (h : i < l.length), ∃ u, xs[3 * i]? = some (.bool l[i].short) ∧ xs[3 * i + 1]? = some u ∧ xs[3 * i + 2]? = some (.int .u8 (l[i].byte.toNat : Int)) ∧ HasX w u l[i].pages
theorem DeedsAt.keep {S : Nat → Prop} {w w' : World} {v : Value} {l : List Deed3} (h : DeedsAt w v l) (hk : Keep S w w') (hs : ∀ b, b < w.heap.size → ¬ S b) : DeedsAt w' v l := by
  obtain ⟨xs, h1, h2, h3⟩ := h
  refine ⟨xs, h1.keep hk (fun b hb hne => hs b (h1.lt hne hb)), h2, fun i hi => ?_⟩
  obtain ⟨u, h4, h5, h6, h7⟩ := h3 i hi
  exact ⟨u, h4, h5, h6, h7.keep hk hs⟩
theorem DeedsAt.grow {w w' : World} {v : Value} {l : List Deed3} (h : DeedsAt w v l) (hk : Grow w w') : DeedsAt w' v l := h.keep hk (fun _ _ => id)
theorem DeedsAt.len {w : World} {v : Value} {l : List Deed3} (h : DeedsAt w v l) (w2 : World) : lenF w2 0 v = some (.int .i64 l.length) := by
  obtain ⟨xs, h1, h2, _⟩ := h
  rw [h1.lenk (by omega), h2, Nat.mul_div_cancel_left _ (by omega)]
theorem DeedsAt.at {w : World} {v : Value} {l : List Deed3} (h : DeedsAt w v l) {i : Nat} (hi : i < l.length) :
    ∃ a u, iaF 3 v (.int .i64 i) = some (.pointer (some a)) ∧ loadN w a 0 3 = some [.bool l[i].short, u, .int .u8 (l[i].byte.toNat : Int)] ∧ Deed3.At w (.agg #[.bool l[i].short, u, .int .u8 (l[i].byte.toNat : Int)]) l[i] := by
  obtain ⟨xs, h1, h2, h3⟩ := h
  obtain ⟨b, o, h5, h6, _⟩ := h1.idxk (i := i) (by omega)
  obtain ⟨u, h7, h8, h9, h10⟩ := h3 i hi
  obtain ⟨x, hx, hxc⟩ := h6 0 (by omega)
  obtain ⟨y, hy, hyc⟩ := h6 1 (by omega)
  obtain ⟨z, hz, hzc⟩ := h6 2 (by omega)
  rw [show i * 3 + 0 = 3 * i from by omega, h7] at hx
  rw [show i * 3 + 1 = 3 * i + 1 from by omega, h8] at hy
  rw [show i * 3 + 2 = 3 * i + 2 from by omega, h9] at hz
  cases hx; cases hy; cases hz
  exact ⟨_, u, h5, loadN3 hxc hyc hzc, u, rfl, h10⟩
/-- All pages. -/
def lpages (size : Nat) (D : Dsk) : List (List UInt8) := (D.image.drop (size + 1)).take 100
theorem lpages_length (size : Nat) (D : Dsk) : (lpages size D).length = min 100 (D.first.length - size - 1) := by
  simp [lpages, Dsk.image_length]; omega
theorem lpages_get {size : Nat} {D : Dsk} {i : Nat} (h : i < (lpages size D).length) : (lpages size D)[i] = D.image[size + 1 + i]'(by rw [lpages_length] at h; rw [D.image_length]; omega) := by
  simp [lpages]
theorem all_spec {G : Gh} {κ : Nat} {w : World} {q size came : Nat} {D : Dsk} (h : LogAt G κ w q size came D) :
    Calls Try.prog 19 #[.pointer (some ⟨q, 0, none⟩)] w (Ret fun v w' => FreshR w.heap.size 28 5 w' v (lpages size D) ∧ Grow w w') := by
  have hll := lpages_length size D
  have h512 : ∀ i (h : i < D.image.length), D.image[i].length = 512 := fun i hi => h.cells.choose_spec.1.ok.image _ (List.getElem_mem hi)
  have hil := D.image_length
  apply enter19
  apply R_in
  simp (maxSteps := 600000) (disch := omega) only [F19, ↓sy1, sy2, sy3, readOK, sy5, sy6, Nat.reduceEqDiff, ↓reduceIte, sy7, sy8, sy9, sya, oneOf, syb, syc, Nat.reduceAdd, Nat.reduceMul, syd, sye, syf, syg, syh, reduceCtorEq]
  refine loop_rule (fun e w' => ∃ i : Nat, i ≤ (lpages size D).length ∧ e 4 = .int .i64 i ∧ e 0 = .pointer (some ⟨q, 0, none⟩) ∧ Grow w w' ∧ FreshR w.heap.size 28 5 w' (e 3) ((lpages size D).take i)) (fun e _ => (lpages size D).length - (intOf (e 4)).toNat)
    ⟨0, by omega, by simp [upd, updO, ev], by simp [upd, updO, ev], Keep.refl _ _, by simpa [upd, updO, ev] using ⟨[], World.ownsRow_nil w _ _ _, trivial⟩⟩ ?_
  rintro e w1 ⟨i, hi, e4, e0, hg1, hf1⟩
  by_cases hlt : i < (lpages size D).length
  · simp (maxSteps := 600000) (disch := omega) only [F19_L0, ↓sy1, sy2, sy3, readOK, sy5, sy6, Nat.reduceEqDiff, ↓reduceIte, sy7, sy8, sy9, sya, oneOf, syb, syc, Nat.reduceAdd, Nat.reduceMul, syd, sye, syf, syg, syh, reduceCtorEq, e4, e0]
    refine call0 (pages_spec (h.grow hg1)) ?_
    rintro _ w2 ⟨rfl, hg2⟩
    have hg12 := hg1.trans hg2
    simp (maxSteps := 600000) (disch := omega) only [↓sy1, sy2, sy3, readOK, sy5, sy6, Nat.reduceEqDiff, ↓reduceIte, sy7, sy8, sy9, sya, oneOf, syb, syc, Nat.reduceAdd, Nat.reduceMul, syd, sye, syf, syg, syh, reduceCtorEq, e4, e0, show ((i : Int) < ((D.first.length - size - 1 : Nat) : Int)) from by omega, show ((i : Int) < 100) from by omega, decide_true]
    refine call0 (lread_spec (h.grow hg12) (n := i) (by omega)) ?_
    rintro _ w3 ⟨u, rfl, hu, hg3⟩
    have hget := lpages_get hlt
    have hul := (h512 (size + 1 + i) (by omega))
    rw [← hget] at hu hul
    have huc := (Has.own hu).isCell
    simp (maxSteps := 600000) (disch := omega) only [↓sy1, sy2, sy3, readOK, sy5, sy6, Nat.reduceEqDiff, ↓reduceIte, sy7, sy8, sy9, sya, oneOf, syb, syc, Nat.reduceAdd, Nat.reduceMul, syd, sye, syf, syg, syh, reduceCtorEq, e4, e0, fill_one, oneF_cell huc]
    have hga : Grow w3 (w3.alloc (.cells #[u] 28)) := (Keep.refl _ _).alloc _
    obtain ⟨vs, h1, h2⟩ := hf1.grow (hg2.trans hg3)
    have hlen : ((lpages size D).take i).length = i := by rw [List.length_take]; omega
    rw [hlen] at h1
    refine app_own elemR (by simp only [upd_at, Nat.reduceEqDiff, reduceIte, ev_tmp, ev_const, List.map_cons, List.map_nil]) (by simp only [upd_at, Nat.reduceEqDiff, reduceIte, ev_tmp, ev_const, List.map_cons, List.map_nil]) (own_grow h1 hga) Has.new1 (m := 1) rfl (by simpa using huc) (by omega) (by omega) (by have := (hg12.trans hg3).size; have := hga.size; omega) ?_
    intro out' w4 ho4 hg4
    simp (maxSteps := 600000) (disch := omega) only [↓sy1, sy2, sy3, readOK, sy5, sy6, Nat.reduceEqDiff, ↓reduceIte, sy7, sy8, sy9, sya, oneOf, syb, syc, Nat.reduceAdd, Nat.reduceMul, syd, sye, syf, syg, syh, reduceCtorEq, e4, e0]
    have hk4 : Keep (fun b => some b = (e 3).ownBlock) w3 w4 := (Keep.grow hga).trans (Keep.grown hg4)
    have hgw : Grow w w4 := (hg12.trans hg3).then hk4 (fun b hb hc => by have := (World.ownsRow.lt h1 b hc.symm).1; omega)
    have hnext : (lpages size D).take (i + 1) = (lpages size D).take i ++ [(lpages size D)[i]] := List.take_succ_eq_append_getElem hlt
    have hvr : w4.ownsRow w.heap.size 5 1 u (lpages size D)[i].length (bs (lpages size D)[i]) := by
      rw [hul]
      exact own_keep (own_base hu hg12.size) hk4 (fun b hb hc => own_ne hu h1 (by decide) hb hc.symm)
    refine R_out ⟨⟨i + 1, by omega, rfl, hgw, vs ++ [u], ?_, ?_⟩, ?_⟩
    · rw [hnext, List.length_append, hlen]; exact ho4
    · rw [hnext]
      exact (h2.keep hk4 (fun b hb u' n xs hu' hub => own_ne hu' h1 (by decide) hub hb.symm)).snoc hvr
    · simp only [intOf]; omega
  · have hie : i = (lpages size D).length := by omega
    rw [hie, List.take_length] at hf1
    simp (maxSteps := 600000) (disch := omega) only [F19_L0, ↓sy1, sy2, sy3, readOK, sy5, sy6, Nat.reduceEqDiff, ↓reduceIte, sy7, sy8, sy9, sya, oneOf, syb, syc, Nat.reduceAdd, Nat.reduceMul, syd, sye, syf, syg, syh, reduceCtorEq, e4, e0]
    refine call0 (pages_spec (h.grow hg1)) ?_
    rintro _ w2 ⟨rfl, hg2⟩
    by_cases hp : (i : Int) < ((D.first.length - size - 1 : Nat) : Int)
    · simp (maxSteps := 600000) (disch := omega) only [↓sy1, sy2, sy3, readOK, sy5, sy6, Nat.reduceEqDiff, ↓reduceIte, sy7, sy8, sy9, sya, oneOf, syb, syc, Nat.reduceAdd, Nat.reduceMul, syd, sye, syf, syg, syh, reduceCtorEq, e4, e0, hp, show ¬ ((i : Int) < 100) from by omega, decide_true, decide_false]
      exact R_out ⟨hf1.grow hg2, hg1.trans hg2⟩
    · simp (maxSteps := 600000) (disch := omega) only [↓sy1, sy2, sy3, readOK, sy5, sy6, Nat.reduceEqDiff, ↓reduceIte, sy7, sy8, sy9, sya, oneOf, syb, syc, Nat.reduceAdd, Nat.reduceMul, syd, sye, syf, syg, syh, reduceCtorEq, e4, e0, hp, decide_true, decide_false]
      exact R_out ⟨hf1.grow hg2, hg1.trans hg2⟩
theorem lpages_small {G : Gh} {κ : Nat} {w : World} {q size came : Nat} {D : Dsk} (h : LogAt G κ w q size came D) : Small (lpages size D) := fun l hl => by
  rw [h.cells.choose_spec.1.ok.image l (List.mem_of_mem_drop (List.mem_of_mem_take hl))]; omega
theorem ccode_ok {n size : Nat} {ps : List Pg} (h : ccode n size ps = 0) (hne : ps ≠ []) : ps.length ≤ min size 100 ∧ ¬ anyOut (n - size - 1) ps ∧ goodP ps := by
  simp only [ccode, if_neg hne] at h
  split at h
  · cases h
  · split at h
    · cases h
    · split at h
      · exact ⟨by omega, by assumption, by assumption⟩
      · cases h
theorem cdone_ok {n size : Nat} {D : Dsk} {ps : List Pg} (hn : D.first.length = n) (h : ccode n size ps = 0) (hne : ps ≠ []) : cdone size D ps = grouped size D (sortP ps) := by
  unfold cdone; rw [hn, if_pos ⟨hne, h⟩]
/-- Nothing waits. -/
def Flat (D : Dsk) : Prop := D.wait = fun _ => []
theorem Flat.waiting {D : Dsk} (h : Flat D) : D.waiting = [] := by
  unfold Dsk.waiting; rw [h]; simp
theorem cdone_flat {size : Nat} {D : Dsk} {ps : List Pg} (h : Flat D) : Flat (cdone size D ps) := by
  unfold cdone
  split
  · rw [grouped_eq]; exact Dsk.wait_fl _
  · exact h
theorem zero_flat (n : Nat) : Flat (Dsk.zero n) := rfl
theorem cdone_more (size : Nat) (D : Dsk) (ps : List Pg) : (cdone size D ps).ops.length = D.ops.length + if ccode D.first.length size ps = 0 ∧ ps ≠ [] then 2 * ps.length + 6 else 0 := by
  unfold cdone
  by_cases h : ps ≠ [] ∧ ccode D.first.length size ps = 0
  · rw [if_pos h, if_pos h.symm, grouped_ops, sortP_length]
  · rw [if_neg h, if_neg (fun h' => h h'.symm)]; rfl
/-- Groups, one after the other. -/
def commits (size : Nat) (D : Dsk) (l : List Deed3) : Dsk := l.foldl (fun D x => cdone size D x.pgs) D
theorem commits_snoc (size : Nat) (D : Dsk) (l : List Deed3) (x : Deed3) : commits size D (l ++ [x]) = cdone size (commits size D l) x.pgs := by simp [commits, List.foldl_append]
theorem commits_take {size : Nat} {D : Dsk} {l : List Deed3} {i : Nat} (h : i < l.length) : commits size D (l.take (i + 1)) = cdone size (commits size D (l.take i)) l[i].pgs := by
  rw [List.take_succ_eq_append_getElem h, commits_snoc]
theorem cdone_ops (size : Nat) (D : Dsk) (ps : List Pg) : (cdone size D ps).ops.length ≤ D.ops.length + 206 := by
  unfold cdone
  split
  · rename_i h
    have : ps.length ≤ 100 := by
      have h2 := h.2
      simp only [ccode, if_neg h.1] at h2
      split at h2
      · cases h2
      · omega
    rw [grouped_ops, sortP_length]; omega
  · omega
theorem commits_first (size : Nat) : ∀ (l : List Deed3) (D : Dsk), (commits size D l).first = D.first
  | [], _ => rfl
  | x :: l, D => (commits_first size l (cdone size D x.pgs)).trans (cdone_first _ _ _)
theorem commits_ops (size : Nat) : ∀ (l : List Deed3) (D : Dsk), (commits size D l).ops.length ≤ D.ops.length + 206 * l.length
  | [], _ => by simp [commits]
  | x :: l, D => by
    have h1 := commits_ops size l (cdone size D x.pgs)
    have h2 := cdone_ops size D x.pgs
    show (commits size (cdone size D x.pgs) l).ops.length ≤ _
    simp only [List.length_cons]; omega
theorem commits_flat {size : Nat} : ∀ {l : List Deed3} {D : Dsk}, Flat D → Flat (commits size D l)
  | [], _, h => h
  | x :: l, D, h => commits_flat (l := l) (cdone_flat (ps := x.pgs) h)
theorem commits_below {D : Dsk} {size : Nat} {l : List Deed3} {i k : Nat} (hi : i ≤ k) (hD : D.ops.length = 0) : (commits size D (l.take i)).ops.length ≤ 206 * k := by
  have h1 := commits_ops size (l.take i) D
  rw [hD, List.length_take] at h1
  have h2 : 206 * min i l.length ≤ 206 * k := Nat.mul_le_mul_left _ (by omega)
  omega
theorem pgs_most (x : Deed3) : x.pgs.length ≤ 1048576 := by rw [x.pgs_length]; omega
/-- Its head is none, or empty. -/
def Calm (D : Dsk) : Prop := D.image[0]? = some zsec ∨ D.image[0]? = some (headB [])
theorem cdone_calm {size : Nat} {D : Dsk} {ps : List Pg} (h : Calm D) (hf : 0 < D.first.length) : Calm (cdone size D ps) := by
  unfold cdone
  split
  · exact .inr (grouped_head hf)
  · exact h
theorem commits_calm {size : Nat} : ∀ {l : List Deed3} {D : Dsk}, Calm D → 0 < D.first.length → Calm (commits size D l)
  | [], _, h, _ => h
  | x :: l, D, h, hf => commits_calm (l := l) (cdone_calm (ps := x.pgs) h hf) (by rw [cdone_first]; exact hf)
theorem zero_calm {n : Nat} (h : 0 < n) : Calm (Dsk.zero n) := .inl (zero_image h)
end Go.Proofs.Ytneehlkofcdhoaa

/- Pages that were handed in are written over. -/
namespace Go.Proofs.Ytneehlkofcdhoaa
open Go
set_option linter.unusedSimpArgs false
open Go.RowKit (intOf)
/-- Pages that the law made, of such lengths, in blocks from B up to M. -/
def FreshL (B M : Nat) (w : World) (v : Value) (ls : List Nat) : Prop := ∃ (ps : List Pg) (xs : List Value), w.ownsRow B 37 2 v ps.length xs ∧ PgCells B w xs ps ∧ (∀ b, v.ownBlock = some b → b < M) ∧ (∀ i u, xs[2 * i + 1]? = some u → ∀ b, u.ownBlock = some b → b < M) ∧ ps.map (·.2.length) = ls
theorem FreshP.lens {B : Nat} {w : World} {v : Value} {ps : List Pg} (h : FreshP B w v ps) : FreshL B w.heap.size w v (ps.map (·.2.length)) := by
  obtain ⟨xs, h1, h2, h3, h4⟩ := h
  refine ⟨ps, xs, h1, ⟨h2, h3, h4⟩, fun b hb => (World.ownsRow.lt h1 b hb).2, fun i u hu b hb => ?_, rfl⟩
  have hi : 2 * i + 1 < xs.length := (List.getElem?_eq_some_iff.1 hu).1
  obtain ⟨_, u', h5, h6⟩ := h4 i (by omega)
  rw [hu] at h5; cases h5
  exact (World.ownsRow.lt h6 b hb).2
theorem FreshL.keep {S : Nat → Prop} {B M : Nat} {w w' : World} {v : Value} {ls : List Nat} (h : FreshL B M w v ls) (hk : Keep S w w') (hs : ∀ b, B ≤ b → b < M → ¬ S b) : FreshL B M w' v ls := by
  obtain ⟨ps, xs, h1, ⟨h2, h3, h4⟩, h5, h6, h7⟩ := h
  refine ⟨ps, xs, own_keepk h1 hk (fun b hb => hs b (World.ownsRow.lt h1 b hb).1 (h5 b hb)), ⟨h2, h3, fun i hi => ?_⟩, h5, h6, h7⟩
  obtain ⟨h8, u, h9, h10⟩ := h4 i hi
  exact ⟨h8, u, h9, own_keep h10 hk (fun b hb => hs b (World.ownsRow.lt h10 b hb).1 (h6 i u h9 b hb))⟩
theorem FreshL.len {B M : Nat} {w : World} {v : Value} {ls : List Nat} (h : FreshL B M w v ls) (w2 : World) : lenF w2 0 v = some (.int .i64 ls.length) := by
  obtain ⟨ps, xs, h1, ⟨h2, _⟩, _, _, rfl⟩ := h
  rw [(Has.own h1).lenk (by omega), h2, Nat.mul_div_cancel_left _ (by omega), List.length_map]
theorem FreshL.parts {B M : Nat} {w : World} {v : Value} {ls : List Nat} (h : FreshL B M w v ls) {i : Nat} (hi : i < ls.length) :
    ∃ b o u, iaF 2 v (.int .i64 i) = some (.pointer (some ⟨b, o, none⟩)) ∧ w.cell? ⟨b, o + 1, none⟩ = some u ∧ ∀ w2, lenF w2 0 u = some (.int .i64 ls[i]) := by
  obtain ⟨ps, xs, h1, h2, _, _, rfl⟩ := h
  obtain ⟨xs, hx⟩ := (show FreshP B w v ps from ⟨xs, h1, h2⟩).heldx
  obtain ⟨b, o, u, h1, _, h2, h3⟩ := (hx (G := G00) (κ := 1) (fun b hb => by show 0 ≠ 1; omega)).parts (i := i) (by simpa using hi)
  exact ⟨b, o, u, h1, h2, fun w2 => by rw [Has.lenB h3.1]; simp⟩
theorem Ext.onS {S : Nat → Prop} {G : Gh} {w w' : World} {μ : Nat} (hk : Keep S w w') (ho : ∀ b, S b → G.own b = μ ∧ G.fix b = 0) : Ext (fun c => c = μ) G w G w' := by
  refine ⟨hk.os, hk.tape, hk.output, hk.size, fun _ _ => rfl, fun _ _ => Nat.le_refl _, fun _ _ _ => rfl, fun b hb hn => hk.blk b hb (fun h => hn (ho b h).1), fun b i v' hb hi hc => ?_⟩
  by_cases hv : S b
  · have := (ho b hv).2; omega
  · exact hk.cell hc hv
theorem bs_at (l : List UInt8) (j : Nat) (c : UInt8) : (bs l).set j (.int .u8 c.toNat) = bs (l.set j c) := by simp [bs, List.map_set]
/-- A store into the bytes of one page: all pages are of the lengths that they were. -/
theorem FreshL.store {B M : Nat} {w : World} {v : Value} {ls : List Nat} (h : FreshL B M w v ls) {i j : Nat} (hi : i < ls.length) (hj : j < ls[i]) :
    ∃ b o u a w', iaF 2 v (.int .i64 i) = some (.pointer (some ⟨b, o, none⟩)) ∧ w.cell? ⟨b, o + 1, none⟩ = some u ∧ iaF 1 u (.int .i64 j) = some (.pointer (some a)) ∧ stF w (.pointer (some a)) (.int .u8 99) = some (undef, w') ∧
      FreshL B M w' v ls ∧ Keep (fun b => b = a.block) w w' ∧ B ≤ a.block ∧ a.block < M := by
  obtain ⟨b, o, u, h1, h2, _⟩ := h.parts hi
  obtain ⟨ps, xs, p1, ⟨p2, p3, p4⟩, pM, pM2, rfl⟩ := h
  have hi' : i < ps.length := by simpa using hi
  have hj' : j < ps[i].2.length := by simpa using hj
  obtain ⟨_, u', p5, p6⟩ := p4 i hi'
  have hu : u' = u := by
    obtain ⟨b', o', q1, q2, _⟩ := (Has.own p1).idxk (i := i) (by omega)
    rw [h1] at q1; cases q1
    obtain ⟨y, hy, hyc⟩ := q2 1 (by omega)
    rw [show i * 2 + 1 = 2 * i + 1 from by omega, p5] at hy
    cases hy
    rw [h2] at hyc; exact (Option.some.inj hyc).symm
  subst hu
  obtain ⟨a, w', ha, hst, ho, hk, hua⟩ := own_store p6 hj' (u := .int .u8 ((99 : UInt8).toNat : Int)) rfl
  have hst' : stF w (.pointer (some a)) (.int .u8 99) = some (undef, w') := hst
  have hkb : Keep (fun b => b = a.block) w w' := hk.mono (fun b _ h => by rw [hua] at h; exact (Option.some.inj h).symm)
  refine ⟨b, o, u', a, w', h1, h2, ha, hst', ?_, hkb, (World.ownsRow.lt p6 _ hua).1, pM2 i u' p5 _ hua⟩
  -- each row of bytes, behind the store
  have hrow : ∀ k (hk' : k < ps.length), ∃ u2 l2, xs[2 * k + 1]? = some u2 ∧ l2.length = ps[k].2.length ∧ w'.ownsRow B 5 1 u2 l2.length (bs l2) := fun k hk' => by
    obtain ⟨_, u2, p7, p8⟩ := p4 k hk'
    by_cases hb : u2.ownBlock = some a.block
    · refine ⟨u2, if j < ps[k].2.length then ps[k].2.set j 99 else ps[k].2, p7, by split <;> simp, ?_⟩
      by_cases hjk : j < ps[k].2.length
      · rw [if_pos hjk]
        obtain ⟨a2, w2, ha2, hst2, ho2, _, hua2⟩ := own_store p8 hjk (u := .int .u8 ((99 : UInt8).toNat : Int)) rfl
        have haa : a2 = a := by
          obtain ⟨_, ⟨rfl, _⟩ | ⟨g, cap, cur, rfl, _⟩⟩ := p8
          · simp [Value.ownBlock] at hb
          · obtain ⟨_, ⟨rfl, _⟩ | ⟨g', cap', cur', rfl, _⟩⟩ := p6
            · simp [Value.ownBlock] at hua
            · simp [Value.ownBlock] at hb hua
              rw [iaF_s (by omega)] at ha ha2
              cases ha; cases ha2
              rw [hua, hb]
        subst haa
        rw [hst] at hst2
        cases hst2
        rw [bs_at] at ho2
        rw [List.length_set]; exact ho2
      · rw [if_neg hjk]
        obtain ⟨q1, ⟨rfl, _⟩ | ⟨g, cap, cur, rfl, q2, q3, q4, q5, q6, q7⟩⟩ := p8
        · simp [Value.ownBlock] at hb
        · obtain ⟨r1, ⟨rfl, _⟩ | ⟨g', cap', cur', rfl, r2, r3, r4, r5, r6, r7⟩⟩ := p6
          · simp [Value.ownBlock] at hua
          · simp [Value.ownBlock] at hb hua
            have hgg : g' = g := by omega
            subst hgg
            rw [q3] at r3; cases r3
            rw [iaF_s (by omega), add_lit] at ha
            cases ha
            have hset : w' = w.setCell ⟨g', 0 + (j : Int).toNat * 1, none⟩ (.int .u8 ((99 : UInt8).toNat : Int)) := by
              simp only [stF] at hst
              split at hst
              · simpa using hst.symm
              · cases hst
            refine ⟨q1, .inr ⟨g', cap, cur.setIfInBounds j (.int .u8 ((99 : UInt8).toNat : Int)), rfl, q2, ?_, q4, q5, by simpa using q6, ?_⟩⟩
            · have hg : g' < w.heap.size := (Array.getElem?_eq_some_iff.1 q3).1
              rw [hset]
              simp only [World.setCell, Array.getElem?_modify, if_pos rfl, q3, Option.map_some]
              simp
            · rw [← q7]
              simp only [Nat.mul_one, Array.toList_setIfInBounds, List.take_set]
              rw [List.set_eq_of_length_le]
              rw [List.length_take]; omega
    · refine ⟨u2, ps[k].2, p7, rfl, own_keep p8 hkb (fun b' hb' he => hb (he ▸ hb'))⟩
  -- put together
  have hall : ∃ qs : List Pg, qs.length = ps.length ∧ ∀ k (h : k < qs.length) (h' : k < ps.length), qs[k].1 = ps[k].1 ∧ qs[k].2.length = ps[k].2.length ∧ ∃ u2, xs[2 * k + 1]? = some u2 ∧ w'.ownsRow B 5 1 u2 qs[k].2.length (bs qs[k].2) := by
    have key : ∀ n, n ≤ ps.length → ∃ qs : List Pg, qs.length = n ∧ ∀ k (h : k < qs.length) (h' : k < ps.length), qs[k].1 = ps[k].1 ∧ qs[k].2.length = ps[k].2.length ∧ ∃ u2, xs[2 * k + 1]? = some u2 ∧ w'.ownsRow B 5 1 u2 qs[k].2.length (bs qs[k].2) := by
      intro n
      induction n with
      | zero => intro _; exact ⟨[], rfl, fun k h => by simp at h⟩
      | succ n ih =>
        intro hn
        obtain ⟨qs, hql, hq⟩ := ih (by omega)
        obtain ⟨u2, l2, r1, r2, r3⟩ := hrow n (by omega)
        refine ⟨qs ++ [(ps[n].1, l2)], by simp [hql], fun k h h' => ?_⟩
        by_cases hkn : k < qs.length
        · rw [List.getElem_append_left hkn]; exact hq k hkn h'
        · have hke : k = n := by simp at h; omega
          subst hke
          rw [List.getElem_append_right (by omega)]
          simp only [hql, Nat.sub_self, List.getElem_cons_zero]
          exact ⟨trivial, r2, u2, r1, r3⟩
    exact key _ (Nat.le_refl _)
  obtain ⟨qs, hql, hq⟩ := hall
  refine ⟨qs, xs, ?_, ⟨by rw [hql]; exact p2, p3, fun k hk' => ?_⟩, pM, pM2, ?_⟩
  · rw [hql]
    exact own_keepk p1 hkb (fun b' hb' he => own_ne p6 p1 (by decide) hua (he ▸ hb'))
  · obtain ⟨r1, r2, u2, r3, r4⟩ := hq k hk' (by omega)
    obtain ⟨r5, _⟩ := p4 k (by omega)
    exact ⟨by rw [r1]; exact r5, u2, r3, r4⟩
  · refine List.ext_getElem (by simp [hql]) fun k h1 h2 => ?_
    rw [List.getElem_map, List.getElem_map]
    exact (hq k (by simpa using h1) (by simpa using h2)).2.1
set_option maxHeartbeats 2000000 in
theorem over_spec {n : Nat} {k : Kont} {e : Env} {w : World} {pv : Value} {B M : Nat} {ls : List Nat} (h11 : e 11 = pv) (h12 : e 12 = .int .i64 0) (hf : FreshL B M w pv ls) (hl : ls.length ≤ 102) (h5 : ∀ l ∈ ls, l ≤ 512)
    (hend : ∀ e' w', e' 2 = e 2 → e' 7 = e 7 → e' 8 = e 8 → e' 10 = e 10 → Keep (fun b => B ≤ b ∧ b < M) w w' → k.x 2 e' w') : R (symS n Try.prog (.loop F8_L1) k e w) := by
  refine loop_rule (fun e' w' => ∃ i : Nat, i ≤ ls.length ∧ e' 12 = .int .i64 i ∧ e' 11 = pv ∧ e' 2 = e 2 ∧ e' 7 = e 7 ∧ e' 8 = e 8 ∧ e' 10 = e 10 ∧ FreshL B M w' pv ls ∧ Keep (fun b => B ≤ b ∧ b < M) w w') (fun e' _ => ls.length - (intOf (e' 12)).toNat)
    ⟨0, by omega, h12, h11, rfl, rfl, rfl, rfl, hf, Keep.refl _ _⟩ ?_
  rintro e1 w1 ⟨i, hi, e12, e11, e2, e7, e8, e10, hf1, hk1⟩
  by_cases hlt : i < ls.length
  · simp (maxSteps := 1000000) (disch := omega) only [↓sy1, sy2, sy3, readOK, sy5, sy6, Nat.reduceEqDiff, ↓reduceIte, sy7, sy8, sy9, sya, oneOf, syb, syc, Nat.reduceAdd, Nat.reduceMul, syd, sye, syf, syg, syh, reduceCtorEq, F8_L1, e12, e11, e2, e7, e8, e10, hf1.len, Int.ofNat_lt, hlt, decide_true]
    have hli := h5 _ (List.getElem_mem hlt)
    refine loop_rule (fun e' w' => ∃ j : Nat, j ≤ ls[i] ∧ e' 13 = .int .i64 j ∧ e' 12 = .int .i64 i ∧ e' 11 = pv ∧ e' 2 = e 2 ∧ e' 7 = e 7 ∧ e' 8 = e 8 ∧ e' 10 = e 10 ∧ FreshL B M w' pv ls ∧ Keep (fun b => B ≤ b ∧ b < M) w w') (fun e' _ => ls[i] - (intOf (e' 13)).toNat)
      ⟨0, by omega, by simp [upd, updO, ev], by simp [upd, updO, ev, e12], by simp [upd, updO, ev, e11], by simp [upd, updO, ev, e2], by simp [upd, updO, ev, e7], by simp [upd, updO, ev, e8], by simp [upd, updO, ev, e10], hf1, hk1⟩ ?_
    clear e12 e11 e2 e7 e8 e10
    rintro e3 w3 ⟨j, hj, e13, e12, e11, e2, e7, e8, e10, hf3, hk3⟩
    by_cases hjl : j < ls[i]
    · obtain ⟨b, o, u, a, w4, ha1, hc, ha2, hst, hf4, hk4, hB⟩ := hf3.store hlt hjl
      obtain ⟨b', o', u', hp1, hp2, hp3⟩ := hf3.parts hlt
      rw [ha1] at hp1; cases hp1
      rw [hc] at hp2; cases hp2
      simp (maxSteps := 1000000) (disch := omega) only [↓sy1, sy2, sy3, readOK, sy5, sy6, Nat.reduceEqDiff, ↓reduceIte, sy7, sy8, sy9, sya, oneOf, syb, syc, Nat.reduceAdd, Nat.reduceMul, syd, sye, syf, syg, syh, reduceCtorEq, F8_L0, e13, e12, e11, e2, e7, e8, e10, ha1, hc, hp3, Int.ofNat_lt, hjl, decide_true, ha2, hst]
      refine R_out ⟨⟨j + 1, by omega, rfl, hf4, hk3.then hk4 (fun b' _ hb => by omega)⟩, ?_⟩
      simp only [intOf]; omega
    · obtain ⟨b', o', u', hp1, hp2, hp3⟩ := hf3.parts hlt
      simp (maxSteps := 1000000) (disch := omega) only [↓sy1, sy2, sy3, readOK, sy5, sy6, Nat.reduceEqDiff, ↓reduceIte, sy7, sy8, sy9, sya, oneOf, syb, syc, Nat.reduceAdd, Nat.reduceMul, syd, sye, syf, syg, syh, reduceCtorEq, F8_L0, e13, e12, e11, e2, e7, e8, e10, hp1, hp2, hp3, Int.ofNat_lt, hjl, decide_false]
      refine R_out ⟨⟨i + 1, by omega, rfl, hf3, hk3⟩, ?_⟩
      simp only [intOf]; omega
  · simp (maxSteps := 1000000) (disch := omega) only [↓sy1, sy2, sy3, readOK, sy5, sy6, Nat.reduceEqDiff, ↓reduceIte, sy7, sy8, sy9, sya, oneOf, syb, syc, Nat.reduceAdd, Nat.reduceMul, syd, sye, syf, syg, syh, reduceCtorEq, F8_L1, e12, e11, e2, e7, e8, e10, hf1.len, Int.ofNat_lt, hlt, decide_false]
    refine R_out (hend _ _ ?_ ?_ ?_ ?_ hk1)
    · simp [upd, updO, e2]
    · simp [upd, updO, e7]
    · simp [upd, updO, e8]
    · simp [upd, updO, e10]
end Go.Proofs.Ytneehlkofcdhoaa

/- The reference's log: its head is written, pages are brought home. -/
namespace Go.Proofs.Ytneehlkofcdhoaa
open Go
set_option linter.unusedSimpArgs false
open Go.RowKit (intOf)
/-- The head's cells while it is written. -/
def bufV (ns : List Nat) (i : Nat) : List Value := bs (headP ns i) ++ List.replicate (508 - 2 * i) (.int .u8 0)
theorem bufV_first (ns : List Nat) : ((((List.replicate 512 (Value.int .u8 0)).set 0 (.int .u8 68)).set 1 (.int .u8 78)).set 2 (.int .u8 (((ns.length : Int) / 256) % 256))).set 3 (.int .u8 ((ns.length : Int) % 256)) = bufV ns 0 := by
  have h : ∀ z : Value, List.replicate 512 z = z :: z :: z :: z :: List.replicate 508 z := fun z => rfl
  rw [h, bufV]
  have hbs : bs (headP ns 0) = [Value.int .u8 68, Value.int .u8 78, Value.int .u8 (((ns.length : Int) / 256) % 256), Value.int .u8 ((ns.length : Int) % 256)] := by
    simp [headP, bs, hi_val, lo_val]
  rw [hbs, show 508 - 2 * 0 = 508 from rfl]
  generalize List.replicate 508 (Value.int .u8 0) = r
  rfl
theorem bufV_succ (ns : List Nat) {i : Nat} (h : i < ns.length) (hl : ns.length ≤ 100) : ((bufV ns i).set (4 + 2 * i) (.int .u8 (((ns[i] : Nat) : Int) / 256 % 256))).set (5 + 2 * i) (.int .u8 (((ns[i] : Nat) : Int) % 256)) = bufV ns (i + 1) := by
  have hpl := headP_length ns (Nat.le_of_lt h)
  have h1 : (bs (headP ns i)).length = 4 + 2 * i := by rw [bs_length, hpl]
  have hr : List.replicate (508 - 2 * i) (Value.int .u8 0) = .int .u8 0 :: .int .u8 0 :: List.replicate (508 - 2 * (i + 1)) (.int .u8 0) := by
    rw [show 508 - 2 * i = (508 - 2 * (i + 1)) + 1 + 1 from by omega, List.replicate_succ, List.replicate_succ]
  rw [bufV, List.set_append_right _ _ (by rw [h1]; exact Nat.le_refl _), h1, Nat.sub_self, hr, List.set_cons_zero, List.set_append_right _ _ (by rw [h1]; omega), h1, show 5 + 2 * i - (4 + 2 * i) = 1 from by omega, List.set_cons_succ, List.set_cons_zero, bufV, headP_succ ns h]
  simp only [bs, List.map_append, List.map_cons, List.map_nil, hi_val, lo_val, List.append_assoc, List.cons_append, List.nil_append]
theorem bufV_all (ns : List Nat) : bufV ns ns.length = bs (headB ns) := by
  rw [bufV, zero_cells, ← headP_all ns]
  simp [bs]
theorem rsetHead_spec {G : Gh} {κ : Nat} {w : World} {q size came : Nat} {D : Dsk} {nv : Value} {ns : List Nat} (h : RLogAt G κ w q size came D) (hn : HasI w nv (zs ns)) (hl : ns.length ≤ 100) (ho : D.ops.length < 900000) :
    Calls Try.prog 57 #[.pointer (some ⟨q, 0, none⟩), nv] w (Ret fun _ w' => ∃ G', RLogAt G' κ w' q size came ((D.add (.wr 0 (headB ns))).add .fl) ∧ Ext (fun c => c = κ) G w G' w') := by
  have hlog := h
  obtain ⟨hκ, hsz1, hsz2, ho0, p, hq, hd⟩ := h
  have hlen : ∀ w', lenF w' 0 nv = some (.int .i64 ns.length) := fun w' => by rw [hn.lenI]; simp
  have hmost := hd.ok.most
  have hsome := hd.ok.some
  apply enter57
  apply R_in
  simp (maxSteps := 1000000) (disch := omega) only [↓sy1, sy2, sy3, readOK, sy5, sy6, Nat.reduceEqDiff, ↓reduceIte, sy7, sy8, sy9, sya, oneOf, syb, syc, Nat.reduceAdd, Nat.reduceMul, syd, sye, syf, syg, syh, reduceCtorEq, F57]
  refine mk_rule elemB (kx := .i64) (ky := .i64) (a := 512) (c := 512) (by simp only [upd_at, Nat.reduceEqDiff, reduceIte, ev_tmp, ev_const, List.map_cons, List.map_nil]) (by simp only [upd_at, Nat.reduceEqDiff, reduceIte, ev_tmp, ev_const, List.map_cons, List.map_nil]) (by omega) (by omega) (by omega) (by omega) rfl ?_
  have hg1 : Grow w (w.alloc (.cells (Array.replicate (512 : Int).toNat (.int .u8 0)) 5)) := (Keep.refl _ _).alloc _
  have ho1 := own_made w w.heap.size (Nat.le_refl _) 5 (512 : Int).toNat (by decide) (.int .u8 0)
  generalize w.alloc (.cells (Array.replicate (512 : Int).toNat (.int .u8 0)) 5) = w1 at hg1 ho1 ⊢
  rw [show (512 : Int).toNat = 512 from rfl] at ho1 ⊢
  generalize (Value.slice (some ⟨w.heap.size, 0, none⟩) 512 512) = bv at ho1 ⊢
  obtain ⟨a0, w2, ha0, hs0, ho2, hk2, _⟩ := own_store ho1 (i := 0) (by omega) (u := .int .u8 68) rfl
  obtain ⟨a1, w3, ha1, hs1, ho3, hk3, _⟩ := own_store ho2 (i := 1) (by omega) (u := .int .u8 78) rfl
  obtain ⟨a2, w4, ha2, hs2, ho4, hk4, _⟩ := own_store ho3 (i := 2) (by omega) (u := .int .u8 (((ns.length : Int) / 256) % 256)) rfl
  obtain ⟨a3, w5, ha3, hs3, ho5, hk5, _⟩ := own_store ho4 (i := 3) (by omega) (u := .int .u8 ((ns.length : Int) % 256)) rfl
  have ha0' : iaF 1 bv (.int .i64 0) = some (.pointer (some a0)) := ha0
  have ha1' : iaF 1 bv (.int .i64 1) = some (.pointer (some a1)) := ha1
  have ha2' : iaF 1 bv (.int .i64 2) = some (.pointer (some a2)) := ha2
  have ha3' : iaF 1 bv (.int .i64 3) = some (.pointer (some a3)) := ha3
  simp (maxSteps := 1000000) (disch := omega) only [↓sy1, sy2, sy3, readOK, sy5, sy6, Nat.reduceEqDiff, ↓reduceIte, sy7, sy8, sy9, sya, oneOf, syb, syc, Nat.reduceAdd, Nat.reduceMul, syd, sye, syf, syg, syh, reduceCtorEq, hlen, bin_shr8, ha0', ha1', ha2', ha3', hs0, hs1, hs2, hs3]
  have hnew : ∀ b, b < w.heap.size → ¬ (bv.ownBlock = some b) := fun b hb h => by have := (World.ownsRow.lt ho1 b h).1; omega
  have hg5 : Grow w w5 := (((hg1.then hk2 (fun b hb h => hnew b hb h)).then hk3 (fun b hb h => hnew b hb h)).then hk4 (fun b hb h => hnew b hb h)).then hk5 (fun b hb h => hnew b hb h)
  rw [bufV_first] at ho5
  refine loop_rule (fun e w' => ∃ i : Nat, i ≤ ns.length ∧ e 5 = .int .i64 i ∧ e 4 = bv ∧ e 1 = nv ∧ e 0 = .pointer (some ⟨q, 0, none⟩) ∧ w'.ownsRow w.heap.size 5 1 bv 512 (bufV ns i) ∧ Grow w w') (fun e _ => ns.length - (intOf (e 5)).toNat)
    ⟨0, by omega, by simp [upd, updO, ev], by simp [upd, updO, ev], by simp [upd, updO, ev], by simp [upd, updO, ev], ho5, hg5⟩ ?_
  rintro e w6 ⟨i, hi, e5, e4, e1, e0, ho6, hg6⟩
  by_cases hlt : i < ns.length
  · simp (maxSteps := 1000000) (disch := omega) only [↓sy1, sy2, sy3, readOK, sy5, sy6, Nat.reduceEqDiff, ↓reduceIte, sy7, sy8, sy9, sya, oneOf, syb, syc, Nat.reduceAdd, Nat.reduceMul, syd, sye, syf, syg, syh, reduceCtorEq, F57_L0, e5, e4, e1, e0, hlen, Int.ofNat_lt, hlt, decide_true]
    refine draw57_0 (fun _ => False) ?_
    have hgd : Grow w6 w6.drew := (Keep.refl _ _).drew
    have ho7 := own_grow ho6 hgd
    have hg7 := hg6.trans hgd
    generalize w6.drew = w7 at ho7 hg7 ⊢
    obtain ⟨a, ha, hac, _⟩ := (hn.grow hg7).getI (l := zs ns) (i := i) (by simpa using hlt)
    have hnv : (zs ns)[i]'(by simpa using hlt) = ((ns[i] : Nat) : Int) := by simp
    rw [hnv] at hac
    obtain ⟨a4, w8, ha4, hs4, ho8, hk8, _⟩ := own_store ho7 (i := 4 + 2 * i) (by omega) (u := .int .u8 (((ns[i] : Nat) : Int) / 256 % 256)) rfl
    obtain ⟨a5, w9, ha5, hs5, ho9, hk9, _⟩ := own_store ho8 (i := 5 + 2 * i) (by omega) (u := .int .u8 (((ns[i] : Nat) : Int) % 256)) rfl
    have hc4 : (4 : Int) + 2 * (i : Int) = ((4 + 2 * i : Nat) : Int) := by omega
    have hc5 : (5 : Int) + 2 * (i : Int) = ((5 + 2 * i : Nat) : Int) := by omega
    rw [bufV_succ ns hlt hl] at ho9
    simp (maxSteps := 1000000) (disch := omega) only [↓sy1, sy2, sy3, readOK, sy5, sy6, Nat.reduceEqDiff, ↓reduceIte, sy7, sy8, sy9, sya, oneOf, syb, syc, Nat.reduceAdd, Nat.reduceMul, syd, sye, syf, syg, syh, reduceCtorEq, PL57_0, e5, e4, e1, e0, hc4, hc5, ha, hac, bin_shr8, ha4, ha5, hs4, hs5]
    refine R_out ⟨⟨i + 1, by omega, rfl, ho9, (hg7.then hk8 (fun b hb h => hnew b hb h)).then hk9 (fun b hb h => hnew b hb h)⟩, ?_⟩
    simp only [intOf]; omega
  · have hie : i = ns.length := by omega
    subst hie
    rw [bufV_all] at ho6
    have hqp : ∀ {w'}, Grow w w' → w'.cell? ⟨q, 0, none⟩ = some (.pointer (some ⟨p, 0, none⟩)) := fun hg => by rw [cell_block (hg.gheap hq)]; rfl
    simp (maxSteps := 1000000) (disch := omega) only [↓sy1, sy2, sy3, readOK, sy5, sy6, Nat.reduceEqDiff, ↓reduceIte, sy7, sy8, sy9, sya, oneOf, syb, syc, Nat.reduceAdd, Nat.reduceMul, syd, sye, syf, syg, syh, reduceCtorEq, F57_L0, e5, e4, e1, e0, hlen, Int.ofNat_lt, hlt, decide_false, hqp hg6]
    refine call0 (rwrite_spec (hd.grow hg6) (n := 0) hsome (headB_length hl) (Has.own ho6) (by omega)) ?_
    rintro _ w7 ⟨rfl, G7, hd7, hx7⟩
    have hx7w : Ext (fun c => c = κ) G w G7 w7 := (Ext.grow hg6).trans hx7
    have hlog7 : RLogAt G7 κ w7 q size came (D.add (.wr 0 (headB ns))) := hlog.put (hqp (Keep.refl _ _)) hx7w rfl hd7
    obtain ⟨_, _, _, _, p', hq7, hd7'⟩ := id hlog7
    have hqp7 : w7.cell? ⟨q, 0, none⟩ = some (.pointer (some ⟨p', 0, none⟩)) := by rw [cell_block hq7]; rfl
    simp (maxSteps := 1000000) (disch := omega) only [↓sy1, sy2, sy3, readOK, sy5, sy6, Nat.reduceEqDiff, ↓reduceIte, sy7, sy8, sy9, sya, oneOf, syb, syc, Nat.reduceAdd, Nat.reduceMul, syd, sye, syf, syg, syh, reduceCtorEq, e0, hqp7]
    refine call0 (rflush_spec hd7' (by simp [Dsk.add]; omega)) ?_
    rintro _ w8 ⟨rfl, G8, hd8, hx8⟩
    simp (maxSteps := 1000000) (disch := omega) only [↓sy1, sy2, sy3, readOK, sy5, sy6, Nat.reduceEqDiff, ↓reduceIte, sy7, sy8, sy9, sya, oneOf, syb, syc, Nat.reduceAdd, Nat.reduceMul, syd, sye, syf, syg, syh, reduceCtorEq]
    exact R_out ⟨G8, hlog7.put hqp7 hx8 rfl hd8, hx7w.trans hx8⟩
theorem rhome_spec {G : Gh} {κ : Nat} {w : World} {q size came : Nat} {D : Dsk} {nv : Value} {ps : List (Nat × List UInt8)} (h : RLogAt G κ w q size came D) (hn : Held G κ w nv (ints (zs (ps.map (·.1))))) (hl : ps.length ≤ size) (hb : ∀ p ∈ ps, p.2.length = 512 ∧ size + 1 + p.1 < D.first.length)
    (himg : ∀ i (h : i < ps.length), D.image[1 + i]? = some ps[i].2) (ho : D.ops.length + ps.length < 800000) :
    Calls Try.prog 58 #[.pointer (some ⟨q, 0, none⟩), nv] w (Ret fun _ w' => ∃ G', RLogAt G' κ w' q size came (homed size D ps) ∧ Ext (fun c => c = κ) G w G' w') := by
  have hlen : ∀ w', lenF w' 0 nv = some (.int .i64 ps.length) := fun w' => by rw [Has.lenI hn.1]; simp
  apply enter58
  apply R_in
  simp (maxSteps := 1000000) (disch := omega) only [↓sy1, sy2, sy3, readOK, sy5, sy6, Nat.reduceEqDiff, ↓reduceIte, sy7, sy8, sy9, sya, oneOf, syb, syc, Nat.reduceAdd, Nat.reduceMul, syd, sye, syf, syg, syh, reduceCtorEq, F58]
  have hsz := h.2.2.1
  refine loop_rule (fun e w' => ∃ (i : Nat) (G' : Gh), i ≤ ps.length ∧ e 4 = .int .i64 i ∧ e 1 = nv ∧ e 0 = .pointer (some ⟨q, 0, none⟩) ∧ RLogAt G' κ w' q size came (adds D (homeOps size (ps.take i))) ∧ Ext (fun c => c = κ) G w G' w') (fun e _ => ps.length - (intOf (e 4)).toNat)
    ⟨0, G, by omega, by simp [upd, updO, ev], by simp [upd, updO, ev], by simp [upd, updO, ev], h, .refl _ _ _⟩ ?_
  rintro e w1 ⟨i, G1, hi, e4, e1, e0, h1, hx1⟩
  have hlog := h1
  obtain ⟨hκ, hs1, hs2, ho0, p, hq, hd⟩ := h1
  have hqp : ∀ {w'}, Grow w1 w' → w'.cell? ⟨q, 0, none⟩ = some (.pointer (some ⟨p, 0, none⟩)) ∧ w'.cell? ⟨q, 1, none⟩ = some (.int .i64 size) := fun hg => ⟨by rw [cell_block (hg.gheap hq)]; rfl, by rw [cell_block (hg.gheap hq)]; rfl⟩
  have hf : (adds D (homeOps size (ps.take i))).first = D.first := adds_first _ _
  have hops : (adds D (homeOps size (ps.take i))).ops.length ≤ D.ops.length + i := by
    rw [adds_ops]; simp [homeOps]; omega
  have hmost := hd.ok.most
  rw [hf] at hmost
  by_cases hlt : i < ps.length
  · simp (maxSteps := 1000000) (disch := omega) only [↓sy1, sy2, sy3, readOK, sy5, sy6, Nat.reduceEqDiff, ↓reduceIte, sy7, sy8, sy9, sya, oneOf, syb, syc, Nat.reduceAdd, Nat.reduceMul, syd, sye, syf, syg, syh, reduceCtorEq, F58_L0, e4, e1, e0, hlen, Int.ofNat_lt, hlt, decide_true, hqp (Keep.refl _ _)]
    rw [show (1 : Int) + (i : Int) = ((1 + i : Nat) : Int) from by omega]
    obtain ⟨hb1, hb2⟩ := hb ps[i] (List.getElem_mem hlt)
    refine call0 (rread_spec hd (n := 1 + i) (by rw [hf]; omega)) ?_
    rintro _ w2 ⟨u, rfl, hu, hg2⟩
    have hcur : (adds D (homeOps size (ps.take i))).image[1 + i]? = some ps[i].2 := by
      rw [image_home_other size (1 + i) _ _ (fun r hr => by omega)]; exact himg i hlt
    have hcur' : (adds D (homeOps size (ps.take i))).image[1 + i]'(by rw [Dsk.image_length, hf]; omega) = ps[i].2 := by
      rw [List.getElem?_eq_getElem (by rw [Dsk.image_length, hf]; omega)] at hcur; exact Option.some.inj hcur
    rw [hcur'] at hu
    simp (maxSteps := 1000000) (disch := omega) only [↓sy1, sy2, sy3, readOK, sy5, sy6, Nat.reduceEqDiff, ↓reduceIte, sy7, sy8, sy9, sya, oneOf, syb, syc, Nat.reduceAdd, Nat.reduceMul, syd, sye, syf, syg, syh, reduceCtorEq, e4, e1, e0]
    refine draw58_0 (fun _ => False) ?_
    have hgd : Grow w2 w2.drew := (Keep.refl _ _).drew
    have hg3 := hg2.trans hgd
    have hu3 := hu.grow hgd
    generalize w2.drew = w3 at hg3 hu3 ⊢
    obtain ⟨a, ha, hac, _⟩ := Has.getI (l := zs (ps.map (·.1))) ((hn.ext hx1).1.grow hg3) (i := i) (by simpa using hlt)
    have hnv : (zs (ps.map (·.1)))[i]'(by simpa using hlt) = ((ps[i].1 : Nat) : Int) := by simp
    rw [hnv] at hac
    simp (maxSteps := 1000000) (disch := omega) only [↓sy1, sy2, sy3, readOK, sy5, sy6, Nat.reduceEqDiff, ↓reduceIte, sy7, sy8, sy9, sya, oneOf, syb, syc, Nat.reduceAdd, Nat.reduceMul, syd, sye, syf, syg, syh, reduceCtorEq, PL58_0, e4, e1, e0, hqp hg3, ha, hac]
    rw [show (size : Int) + 1 + ((ps[i].1 : Nat) : Int) = ((size + 1 + ps[i].1 : Nat) : Int) from by omega]
    refine call0 (rwrite_spec (hd.grow hg3) (by rw [hf]; exact hb2) hb1 hu3 (by omega)) ?_
    rintro _ w4 ⟨rfl, G4, hd4, hx4⟩
    simp (maxSteps := 1000000) (disch := omega) only [↓sy1, sy2, sy3, readOK, sy5, sy6, Nat.reduceEqDiff, ↓reduceIte, sy7, sy8, sy9, sya, oneOf, syb, syc, Nat.reduceAdd, Nat.reduceMul, syd, sye, syf, syg, syh, reduceCtorEq, e4, e1, e0]
    have hx14 : Ext (fun c => c = κ) G1 w1 G4 w4 := (Ext.grow hg3).trans hx4
    have hstep : adds D (homeOps size (ps.take (i + 1))) = (adds D (homeOps size (ps.take i))).add (.wr (size + 1 + ps[i].1) ps[i].2) := by rw [homeOps_take size ps hlt, adds_snoc]
    refine R_out ⟨⟨i + 1, G4, by omega, rfl, by rw [hstep]; exact hlog.put (hqp (Keep.refl _ _)).1 hx14 rfl hd4, hx1.trans hx14⟩, ?_⟩
    simp only [intOf]; omega
  · have hie : i = ps.length := by omega
    subst hie
    rw [List.take_length] at hlog hd hops hf
    simp (maxSteps := 1000000) (disch := omega) only [↓sy1, sy2, sy3, readOK, sy5, sy6, Nat.reduceEqDiff, ↓reduceIte, sy7, sy8, sy9, sya, oneOf, syb, syc, Nat.reduceAdd, Nat.reduceMul, syd, sye, syf, syg, syh, reduceCtorEq, F58_L0, e4, e1, e0, hlen, Int.ofNat_lt, hlt, decide_false, hqp (Keep.refl _ _)]
    refine call0 (rflush_spec hd (by omega)) ?_
    rintro _ w2 ⟨rfl, G2, hd2, hx2⟩
    have hlog2 := hlog.put (E := (adds D (homeOps size ps)).add .fl) (hqp (Keep.refl _ _)).1 hx2 rfl hd2
    simp (maxSteps := 1000000) (disch := omega) only [↓sy1, sy2, sy3, readOK, sy5, sy6, Nat.reduceEqDiff, ↓reduceIte, sy7, sy8, sy9, sya, oneOf, syb, syc, Nat.reduceAdd, Nat.reduceMul, syd, sye, syf, syg, syh, reduceCtorEq, e0]
    refine call0 (rsetHead_spec (ns := []) hlog2 (Has.nil 1 w2) (by simp) (by simp [Dsk.add]; omega)) ?_
    rintro _ w3 ⟨G3, hlog3, hx3⟩
    simp (maxSteps := 1000000) (disch := omega) only [↓sy1, sy2, sy3, readOK, sy5, sy6, Nat.reduceEqDiff, ↓reduceIte, sy7, sy8, sy9, sya, oneOf, syb, syc, Nat.reduceAdd, Nat.reduceMul, syd, sye, syf, syg, syh, reduceCtorEq]
    exact R_out ⟨G3, hlog3, (hx1.trans hx2).trans hx3⟩
/-- What it tells. -/
theorem rpages_spec {G : Gh} {κ : Nat} {w : World} {q size came : Nat} {D : Dsk} (h : RLogAt G κ w q size came D) :
    Calls Try.prog 28 #[.pointer (some ⟨q, 0, none⟩)] w (Ret fun v w' => v = .int .i64 ((D.first.length - size - 1 : Nat) : Int) ∧ Grow w w') := by
  obtain ⟨p, hd, hc⟩ := h.cells
  have hs2 := h.2.2.1
  have hmost := hd.ok.most
  apply enter28
  apply R_in
  simp (maxSteps := 1000000) (disch := omega) only [↓sy1, sy2, sy3, readOK, sy5, sy6, Nat.reduceEqDiff, ↓reduceIte, sy7, sy8, sy9, sya, oneOf, syb, syc, Nat.reduceAdd, Nat.reduceMul, syd, sye, syf, syg, syh, reduceCtorEq, F28]
  refine draw28_0 (fun _ => False) ?_
  have hgd : Grow w w.drew := (Keep.refl _ _).drew
  generalize w.drew = w1 at hgd ⊢
  simp (maxSteps := 1000000) (disch := omega) only [↓sy1, sy2, sy3, readOK, sy5, sy6, Nat.reduceEqDiff, ↓reduceIte, sy7, sy8, sy9, sya, oneOf, syb, syc, Nat.reduceAdd, Nat.reduceMul, syd, sye, syf, syg, syh, reduceCtorEq, PL28_0, hc hgd]
  refine call0 (rsectors_spec (hd.grow hgd)) ?_
  rintro _ w2 ⟨rfl, rfl⟩
  simp (maxSteps := 1000000) (disch := omega) only [↓sy1, sy2, sy3, readOK, sy5, sy6, Nat.reduceEqDiff, ↓reduceIte, sy7, sy8, sy9, sya, oneOf, syb, syc, Nat.reduceAdd, Nat.reduceMul, syd, sye, syf, syg, syh, reduceCtorEq]
  refine ⟨Keep.refl _ _, ?_⟩
  exact R_out ⟨by congr 1; omega, hgd⟩
theorem rcapacity_spec {G : Gh} {κ : Nat} {w : World} {q size came : Nat} {D : Dsk} (h : RLogAt G κ w q size came D) :
    Calls Try.prog 31 #[.pointer (some ⟨q, 0, none⟩)] w (Ret fun v w' => v = .int .i64 ((min size 100 : Nat) : Int) ∧ w' = w) := by
  obtain ⟨p, hd, hc⟩ := h.cells
  apply enter31
  apply R_in
  by_cases hs : 100 < size
  · simp (maxSteps := 1000000) (disch := omega) only [↓sy1, sy2, sy3, readOK, sy5, sy6, Nat.reduceEqDiff, ↓reduceIte, sy7, sy8, sy9, sya, oneOf, syb, syc, Nat.reduceAdd, Nat.reduceMul, syd, sye, syf, syg, syh, reduceCtorEq, F31, hc (Keep.refl _ _), show ((100 : Int) < (size : Int)) from by omega, decide_true]
    exact R_out (by rw [show min size 100 = 100 from by omega]; first | exact ⟨rfl, trivial⟩ | rfl)
  · simp (maxSteps := 1000000) (disch := omega) only [↓sy1, sy2, sy3, readOK, sy5, sy6, Nat.reduceEqDiff, ↓reduceIte, sy7, sy8, sy9, sya, oneOf, syb, syc, Nat.reduceAdd, Nat.reduceMul, syd, sye, syf, syg, syh, reduceCtorEq, F31, hc (Keep.refl _ _), show ¬ ((100 : Int) < (size : Int)) from by omega, decide_false]
    exact R_out (by rw [show min size 100 = size from by omega])
theorem rcame_spec {G : Gh} {κ : Nat} {w : World} {q size came : Nat} {D : Dsk} (h : RLogAt G κ w q size came D) :
    Calls Try.prog 32 #[.pointer (some ⟨q, 0, none⟩)] w (Ret fun v w' => v = .int .i64 came ∧ w' = w) := by
  obtain ⟨p, hd, hc⟩ := h.cells
  apply enter32
  apply R_in
  simp (maxSteps := 1000000) (disch := omega) only [↓sy1, sy2, sy3, readOK, sy5, sy6, Nat.reduceEqDiff, ↓reduceIte, sy7, sy8, sy9, sya, oneOf, syb, syc, Nat.reduceAdd, Nat.reduceMul, syd, sye, syf, syg, syh, reduceCtorEq, F32, hc (Keep.refl _ _)]
  exact R_out trivial
theorem rldisk_spec {G : Gh} {κ : Nat} {w : World} {q size came : Nat} {D : Dsk} (κ' : Nat) (h : RLogAt G κ w q size came D) :
    Calls Try.prog 34 #[.pointer (some ⟨q, 0, none⟩)] w (Ret fun v w' => ∃ p G', v = .pointer (some ⟨p, 0, none⟩) ∧ w.heap.size ≤ p ∧ RefAt G' κ' w' p D ∧ Ext0 G w G' w') := by
  obtain ⟨p, hd, hc⟩ := h.cells
  apply enter34
  apply R_in
  simp (maxSteps := 1000000) (disch := omega) only [↓sy1, sy2, sy3, readOK, sy5, sy6, Nat.reduceEqDiff, ↓reduceIte, sy7, sy8, sy9, sya, oneOf, syb, syc, Nat.reduceAdd, Nat.reduceMul, syd, sye, syf, syg, syh, reduceCtorEq, F34, hc (Keep.refl _ _)]
  refine call0 (rfork_spec κ' hd) ?_
  rintro _ w1 ⟨p', G', rfl, hp, hd', hx⟩
  simp (maxSteps := 1000000) (disch := omega) only [↓sy1, sy2, sy3, readOK, sy5, sy6, Nat.reduceEqDiff, ↓reduceIte, sy7, sy8, sy9, sya, oneOf, syb, syc, Nat.reduceAdd, Nat.reduceMul, syd, sye, syf, syg, syh, reduceCtorEq]
  exact R_out ⟨p', G', rfl, hp, hd', hx⟩
theorem rlread_spec {G : Gh} {κ : Nat} {w : World} {q size came n : Nat} {D : Dsk} (h : RLogAt G κ w q size came D) (hn : n < D.first.length - size - 1) :
    Calls Try.prog 29 #[.pointer (some ⟨q, 0, none⟩), .int .i64 n] w (Ret fun v w' => ∃ u, v = .tuple #[u, .int .i64 0] ∧ HasB w' u (D.image[size + 1 + n]'(by rw [D.image_length]; omega)) ∧ Grow w w') := by
  obtain ⟨p, hd, hc⟩ := h.cells
  have hmost := hd.ok.most
  apply enter29
  apply R_in
  simp (maxSteps := 1000000) (disch := omega) only [↓sy1, sy2, sy3, readOK, sy5, sy6, Nat.reduceEqDiff, ↓reduceIte, sy7, sy8, sy9, sya, oneOf, syb, syc, Nat.reduceAdd, Nat.reduceMul, syd, sye, syf, syg, syh, reduceCtorEq, F29, show ¬ ((n : Int) < 0) from by omega, decide_false]
  refine call0 (rpages_spec h) ?_
  rintro _ w1 ⟨rfl, hg1⟩
  simp (maxSteps := 1000000) (disch := omega) only [↓sy1, sy2, sy3, readOK, sy5, sy6, Nat.reduceEqDiff, ↓reduceIte, sy7, sy8, sy9, sya, oneOf, syb, syc, Nat.reduceAdd, Nat.reduceMul, syd, sye, syf, syg, syh, reduceCtorEq, show ¬ (((D.first.length - size - 1 : Nat) : Int) ≤ (n : Int)) from by omega, decide_false]
  refine draw29_0 (fun _ => False) ?_
  have hgd : Grow w w1.drew := hg1.drew
  generalize w1.drew = w2 at hgd ⊢
  simp (maxSteps := 1000000) (disch := omega) only [↓sy1, sy2, sy3, readOK, sy5, sy6, Nat.reduceEqDiff, ↓reduceIte, sy7, sy8, sy9, sya, oneOf, syb, syc, Nat.reduceAdd, Nat.reduceMul, syd, sye, syf, syg, syh, reduceCtorEq, PL29_0, hc hgd]
  rw [show (size : Int) + 1 + (n : Int) = ((size + 1 + n : Nat) : Int) from by omega]
  refine call0 (rread_spec (hd.grow hgd) (n := size + 1 + n) (by omega)) ?_
  rintro _ w3 ⟨u, rfl, hu, hg3⟩
  simp (maxSteps := 1000000) (disch := omega) only [↓sy1, sy2, sy3, readOK, sy5, sy6, Nat.reduceEqDiff, ↓reduceIte, sy7, sy8, sy9, sya, oneOf, syb, syc, Nat.reduceAdd, Nat.reduceMul, syd, sye, syf, syg, syh, reduceCtorEq]
  exact R_out ⟨u, rfl, hu, hgd.trans hg3⟩
theorem rlread_bad {G : Gh} {κ : Nat} {w : World} {q size came : Nat} {n : Int} {D : Dsk} (h : RLogAt G κ w q size came D) (hn : n < 0 ∨ ((D.first.length - size - 1 : Nat) : Int) ≤ n) :
    Calls Try.prog 29 #[.pointer (some ⟨q, 0, none⟩), .int .i64 n] w (Ret fun v w' => v = .tuple #[.slice none 0 0, .int .i64 2] ∧ Grow w w') := by
  apply enter29
  apply R_in
  by_cases h0 : n < 0
  · simp (maxSteps := 1000000) (disch := omega) only [↓sy1, sy2, sy3, readOK, sy5, sy6, Nat.reduceEqDiff, ↓reduceIte, sy7, sy8, sy9, sya, oneOf, syb, syc, Nat.reduceAdd, Nat.reduceMul, syd, sye, syf, syg, syh, reduceCtorEq, F29, h0, decide_true]
    exact R_out (Keep.refl _ _)
  · simp (maxSteps := 1000000) (disch := omega) only [↓sy1, sy2, sy3, readOK, sy5, sy6, Nat.reduceEqDiff, ↓reduceIte, sy7, sy8, sy9, sya, oneOf, syb, syc, Nat.reduceAdd, Nat.reduceMul, syd, sye, syf, syg, syh, reduceCtorEq, F29, h0, decide_false]
    refine call0 (rpages_spec h) ?_
    rintro _ w1 ⟨rfl, hg1⟩
    simp (maxSteps := 1000000) (disch := omega) only [↓sy1, sy2, sy3, readOK, sy5, sy6, Nat.reduceEqDiff, ↓reduceIte, sy7, sy8, sy9, sya, oneOf, syb, syc, Nat.reduceAdd, Nat.reduceMul, syd, sye, syf, syg, syh, reduceCtorEq, show (((D.first.length - size - 1 : Nat) : Int) ≤ n) from by omega, decide_true]
    exact R_out hg1
end Go.Proofs.Ytneehlkofcdhoaa

/- The reference's Commit: the same answer, the same disk. -/
namespace Go.Proofs.Ytneehlkofcdhoaa
open Go
set_option linter.unusedSimpArgs false
open Go.RowKit (intOf)
/-- A part of a row. -/
theorem Has.slcToK {k : Nat} {w : World} {v : Value} {xs : List Value} (h : Has k w v xs) {m : Nat} (hm : m * k ≤ xs.length) (hk : 0 < k) :
    ∃ v', slcF k v none (some (.int .i64 m)) none = some v' ∧ Has k w v' (xs.take (m * k)) := by
  rcases h with ⟨b, o, n, c, rfl, h1, h2, h3⟩ | ⟨rfl, rfl⟩
  · have hmn : m ≤ n := Nat.le_of_mul_le_mul_right (h1 ▸ hm) hk
    refine ⟨.slice (some ⟨b, o, none⟩) m c, ?_, .inl ⟨b, o, m, c, rfl, by rw [List.length_take]; omega, by omega, fun j u hj => ?_⟩⟩
    · simp only [slcF, slcV, bndV]
      rw [if_pos ⟨by omega, by omega⟩]
      simp [add_lit]
    · rw [List.getElem?_take] at hj
      split at hj
      · exact h3 j u hj
      · cases hj
  · have hm0 : m = 0 := by
      rcases Nat.eq_zero_or_pos m with h | h
      · exact h
      · have := Nat.mul_pos h hk; simp at hm; omega
    subst hm0
    exact ⟨.slice none 0 0, by simp [slcF, slcV, bndV], by simpa using Has.nil k w⟩
theorem Has.slcFromK {k : Nat} {w : World} {v : Value} {xs : List Value} (h : Has k w v xs) {m : Nat} (hm : m * k ≤ xs.length) (hk : 0 < k) :
    ∃ v', slcF k v (some (.int .i64 m)) none none = some v' ∧ Has k w v' (xs.drop (m * k)) := by
  rcases h with ⟨b, o, n, c, rfl, h1, h2, h3⟩ | ⟨rfl, rfl⟩
  · have hmn : m ≤ n := Nat.le_of_mul_le_mul_right (h1 ▸ hm) hk
    have hr : slcF k (.slice (some ⟨b, o, none⟩) n c) (some (.int .i64 m)) none none = some (.slice (if c = m then some ⟨b, o, none⟩ else some ⟨b, o + m * k, none⟩) (n - m) (c - m)) := by
      simp only [slcF, slcV, bndV]
      simp only [Option.isSome_none, Bool.false_eq_true, if_false]
      rw [if_pos ⟨by omega, by omega⟩]
      simp [add_lit]
    refine ⟨_, hr, ?_⟩
    have hdl : (xs.drop (m * k)).length = (n - m) * k := by rw [List.length_drop, h1, Nat.sub_mul]
    by_cases hc : c = m
    · rw [if_pos hc]
      refine .inl ⟨b, o, n - m, c - m, rfl, hdl, by omega, fun j u hj => ?_⟩
      rw [List.drop_eq_nil_of_le (by rw [h1, show n = m from by omega]; exact Nat.le_refl _)] at hj; simp at hj
    · rw [if_neg hc]
      refine .inl ⟨b, o + m * k, n - m, c - m, rfl, hdl, by omega, fun j u hj => ?_⟩
      rw [List.getElem?_drop] at hj
      rw [show o + m * k + j = o + (m * k + j) from by omega]
      exact h3 _ u hj
  · have hm0 : m = 0 := by
      rcases Nat.eq_zero_or_pos m with h | h
      · exact h
      · have := Nat.mul_pos h hk; simp at hm; omega
    subst hm0
    exact ⟨.slice none 0 0, by simp [slcF, slcV, bndV], by simpa using Has.nil k w⟩
abbrev Qg := Pg × Value
/-- Pages with the values of their bytes, as cells. -/
def cellsQ (qs : List Qg) : List Value := qs.flatMap fun q => [.int .i64 q.1.1, q.2]
theorem cellsQ_append (a b : List Qg) : cellsQ (a ++ b) = cellsQ a ++ cellsQ b := by simp [cellsQ]
theorem cellsQ_length (qs : List Qg) : (cellsQ qs).length = 2 * qs.length := by
  induction qs with
  | nil => rfl
  | cons q qs ih => rw [show cellsQ (q :: qs) = .int .i64 q.1.1 :: q.2 :: cellsQ qs from rfl]; simp [ih]; omega
theorem cellsQ_get : ∀ (qs : List Qg) (i : Nat) (h : i < qs.length), (cellsQ qs)[2 * i]? = some (.int .i64 qs[i].1.1) ∧ (cellsQ qs)[2 * i + 1]? = some qs[i].2
  | q :: qs, 0, _ => ⟨rfl, rfl⟩
  | q :: qs, i + 1, h => by
    rw [show cellsQ (q :: qs) = .int .i64 q.1.1 :: q.2 :: cellsQ qs from rfl, show 2 * (i + 1) = 2 * i + 1 + 1 from by omega]
    simpa using cellsQ_get qs i (by simpa using h)
theorem cellsQ_take (qs : List Qg) (m : Nat) (h : m ≤ qs.length) : (cellsQ qs).take (m * 2) = cellsQ (qs.take m) := by
  have h1 : cellsQ qs = cellsQ (qs.take m) ++ cellsQ (qs.drop m) := by rw [← cellsQ_append, List.take_append_drop]
  rw [h1, List.take_left' (by rw [cellsQ_length, List.length_take]; omega)]
theorem cellsQ_drop (qs : List Qg) (m : Nat) (h : m ≤ qs.length) : (cellsQ qs).drop (m * 2) = cellsQ (qs.drop m) := by
  have h1 : cellsQ qs = cellsQ (qs.take m) ++ cellsQ (qs.drop m) := by rw [← cellsQ_append, List.take_append_drop]
  rw [h1, List.drop_left' (by rw [cellsQ_length, List.length_take]; omega)]
theorem toQ {R : Value → List UInt8 → Prop} : ∀ (ps : List Pg) (xs : List Value), xs.length = 2 * ps.length → (∀ i (h : i < ps.length), xs[2 * i]? = some (.int .i64 ps[i].1) ∧ ∃ u, xs[2 * i + 1]? = some u ∧ R u ps[i].2) →
    ∃ qs : List Qg, qs.map (·.1) = ps ∧ xs = cellsQ qs ∧ ∀ q ∈ qs, R q.2 q.1.2
  | [], xs, hl, _ => ⟨[], rfl, List.eq_nil_of_length_eq_zero hl, fun q hq => by simp at hq⟩
  | p :: ps, a :: b :: xs, hl, h => by
    obtain ⟨h1, u, h2, h3⟩ := h 0 (by simp)
    simp at h1 h2
    subst h1; subst h2
    obtain ⟨qs, h4, h5, h6⟩ := toQ ps xs (by simp at hl; omega) (fun i hi => by
      have := h (i + 1) (by simpa using hi)
      rw [show 2 * (i + 1) = 2 * i + 1 + 1 from by omega] at this
      simpa using this)
    refine ⟨(p, b) :: qs, by simp [h4], by rw [h5]; rfl, fun q hq => ?_⟩
    rcases List.mem_cons.1 hq with rfl | hq
    · exact h3
    · exact h6 q hq
  | p :: ps, [], hl, _ => absurd hl (by simp)
  | p :: ps, [a], hl, _ => absurd hl (by simp; omega)
/-- Numbers of pages rise. -/
def riseQ (qs : List Qg) : Prop := (qs.map (·.1.1)).Pairwise (· < ·)
theorem riseQ_get {qs : List Qg} (h : riseQ qs) {i j : Nat} (hij : i < j) (hj : j < qs.length) : (qs[i]'(by omega)).1.1 < qs[j].1.1 := by
  have := List.pairwise_iff_getElem.1 h i j (by simp; omega) (by simpa using hj) hij
  simpa using this
theorem riseQ_ins {qs : List Qg} {q : Qg} {m : Nat} (h : riseQ qs) (hm : m ≤ qs.length) (h1 : ∀ i (hi : i < qs.length), i < m → qs[i].1.1 < q.1.1) (h2 : ∀ i (hi : i < qs.length), m ≤ i → q.1.1 < qs[i].1.1) : riseQ (qs.take m ++ [q] ++ qs.drop m) := by
  have ht : riseQ (qs.take m) := by unfold riseQ; rw [List.map_take]; exact List.Pairwise.sublist (List.take_sublist ..) h
  have hd : riseQ (qs.drop m) := by unfold riseQ; rw [List.map_drop]; exact List.Pairwise.sublist (List.drop_sublist ..) h
  have ht1 : ∀ a ∈ (qs.take m).map (·.1.1), a < q.1.1 := fun a ha => by
    obtain ⟨r, hr, rfl⟩ := List.mem_map.1 ha
    obtain ⟨i, hi, rfl⟩ := List.getElem_of_mem hr
    rw [List.getElem_take]
    rw [List.length_take] at hi
    exact h1 i (by omega) (by omega)
  have hd1 : ∀ a ∈ (qs.drop m).map (·.1.1), q.1.1 < a := fun a ha => by
    obtain ⟨r, hr, rfl⟩ := List.mem_map.1 ha
    obtain ⟨i, hi, rfl⟩ := List.getElem_of_mem hr
    rw [List.getElem_drop]
    rw [List.length_drop] at hi
    exact h2 (m + i) (by omega) (by omega)
  unfold riseQ
  rw [List.map_append, List.map_append, List.pairwise_append, List.pairwise_append]
  refine ⟨⟨ht, by simp, fun a ha b hb => ?_⟩, hd, fun a ha b hb => ?_⟩
  · simp at hb; subst hb; exact ht1 a ha
  · rcases List.mem_append.1 ha with ha | ha
    · have := ht1 a ha; have := hd1 b hb; omega
    · simp at ha; subst ha; exact hd1 b hb
theorem ins_perm {α : Type} (l r : List α) (q : α) (m : Nat) (h : l.Perm r) : (l.take m ++ [q] ++ l.drop m).Perm (r ++ [q]) := by
  have h1 : (l.take m ++ [q] ++ l.drop m).Perm (l.take m ++ l.drop m ++ [q]) := by
    rw [List.append_assoc, List.append_assoc]
    exact List.Perm.append_left _ List.perm_append_comm
  rw [List.take_append_drop] at h1
  exact h1.trans (h.append_right _)
theorem Ext.past {K : Nat → Prop} {G G' : Gh} {w w' w'' : World} {v : Option Nat} {μ : Nat} (hx : Ext K G w G' w') (hk : Keep (fun b => some b = v) w' w'') (hv : ∀ b, v = some b → w.heap.size ≤ b) : Ext K G w (G'.upto w'.heap.size (fun _ => μ) (fun _ => 0)) w'' := by
  have hs := hx.size
  have hne : ∀ b, b < w.heap.size → ¬ (some b = v) := fun b hb h => by have := hv b h.symm; omega
  have hu1 : ∀ b, b < w.heap.size → (G'.upto w'.heap.size (fun _ => μ) (fun _ => 0)).own b = G'.own b := fun b hb => by simp [Gh.upto, show b < w'.heap.size by omega]
  have hu2 : ∀ b, b < w.heap.size → (G'.upto w'.heap.size (fun _ => μ) (fun _ => 0)).fix b = G'.fix b := fun b hb => by simp [Gh.upto, show b < w'.heap.size by omega]
  exact ⟨hk.os.trans hx.os, hk.tape.trans hx.tape, hk.output.trans hx.output, Nat.le_trans hs hk.size, fun b hb => (hu1 b hb).trans (hx.own b hb), fun b hb => by rw [hu2 b hb]; exact hx.fix b hb,
    fun b hb hn => (hu2 b hb).trans (hx.fixe b hb hn), fun b hb hn => (hk.blk b (by omega) (hne b hb)).trans (hx.blk b hb hn), fun b i u hb hi hc => hk.cell (hx.pre b i u hb hi hc) (hne b hb)⟩
theorem Ext.app {G : Gh} {w w' : World} {μ : Nat} {v : Option Nat} (hk : Keep (fun b => some b = v) w w') (ho : ∀ b, v = some b → G.own b = μ ∧ G.fix b = 0) : Ext (fun c => c = μ) G w (G.upto w.heap.size (fun _ => μ) (fun _ => 0)) w' := by
  have hne : ∀ b, G.own b ≠ μ → ¬ (some b = v) := fun b h hv => h (ho b hv.symm).1
  refine ⟨hk.os, hk.tape, hk.output, hk.size, fun b hb => by simp [Gh.upto, hb], fun b hb => by simp [Gh.upto, hb], fun b hb _ => by simp [Gh.upto, hb], fun b hb hn => hk.blk b hb (hne b hn), fun b i v' hb hi hc => ?_⟩
  by_cases hv : some b = v
  · have := (ho b hv.symm).2; omega
  · exact hk.cell hc hv
end Go.Proofs.Ytneehlkofcdhoaa

/- The reference's Commit: the walk. -/
namespace Go.Proofs.Ytneehlkofcdhoaa
open Go
set_option linter.unusedSimpArgs false
open Go.RowKit (intOf)
theorem cellsQ_cell {G : Gh} {κ : Nat} {w : World} {qs : List Qg} (h : ∀ q ∈ qs, Held G κ w q.2 (bs q.1.2)) : ∀ u ∈ cellsQ qs, isCell u = true := fun u hu => by
  obtain ⟨q, hq, hu⟩ := List.mem_flatMap.1 hu
  simp at hu
  rcases hu with rfl | rfl
  · rfl
  · exact (h q hq).1.isCell
/-- An element of the row that is sorted. -/
theorem Has.atQ {w : World} {v : Value} {qs : List Qg} (h : Has 2 w v (cellsQ qs)) {i : Nat} (hi : i < qs.length) :
    ∃ b o, iaF 2 v (.int .i64 i) = some (.pointer (some ⟨b, o, none⟩)) ∧ w.cell? ⟨b, o, none⟩ = some (.int .i64 qs[i].1.1) ∧ w.cell? ⟨b, o + 1, none⟩ = some qs[i].2 := by
  obtain ⟨b, o, h5, h6, _⟩ := h.idxk (i := i) (by rw [cellsQ_length]; omega)
  obtain ⟨h7, h8⟩ := cellsQ_get qs i hi
  obtain ⟨x, hx, hxc⟩ := h6 0 (by omega)
  obtain ⟨y, hy, hyc⟩ := h6 1 (by omega)
  rw [show i * 2 + 0 = 2 * i from by omega, h7] at hx
  rw [show i * 2 + 1 = 2 * i + 1 from by omega, h8] at hy
  cases hx; cases hy
  exact ⟨b, o, h5, hxc, hyc⟩
set_option maxHeartbeats 8000000 in
theorem rcommit_spec {G : Gh} {κ : Nat} {w : World} {q size came : Nat} {D : Dsk} {v : Value} {ps : List Pg} {xs : List Value} (h : RLogAt G κ w q size came D) (hp : PagesH G κ w v ps xs) (hl : ps.length ≤ 1048576) (ho : D.ops.length < 700000) :
    Calls Try.prog 27 #[.pointer (some ⟨q, 0, none⟩), v] w (Ret fun r w' => r = .int .i64 (ccode D.first.length size ps) ∧ ∃ G', RLogAt G' κ w' q size came (cdone size D ps) ∧ Ext (fun c => c = κ) G w G' w') := by
  have hmost := h.cells.choose_spec.1.ok.most
  have hs1 := h.2.1
  have hs2 := h.2.2.1
  have hlen := hp.len
  apply enter27
  apply R_in
  by_cases hps : ps = []
  · subst hps
    simp (maxSteps := 1000000) (disch := omega) only [↓sy1, sy2, sy3, readOK, sy5, sy6, Nat.reduceEqDiff, ↓reduceIte, sy7, sy8, sy9, sya, oneOf, syb, syc, Nat.reduceAdd, Nat.reduceMul, syd, sye, syf, syg, syh, reduceCtorEq, F27, hlen, List.length_nil, show (((0 : Nat) : Int) = 0) = True from by simp, decide_true]
    exact R_out ⟨by simp [ccode], G, by simpa [cdone] using h, .refl _ _ _⟩
  have hpos : 0 < ps.length := List.length_pos_iff.2 hps
  simp (maxSteps := 1000000) (disch := omega) only [↓sy1, sy2, sy3, readOK, sy5, sy6, Nat.reduceEqDiff, ↓reduceIte, sy7, sy8, sy9, sya, oneOf, syb, syc, Nat.reduceAdd, Nat.reduceMul, syd, sye, syf, syg, syh, reduceCtorEq, F27, hlen, show ¬ ((ps.length : Int) = 0) from by omega, decide_false]
  refine call0 (rcapacity_spec h) ?_
  rintro _ w1 ⟨rfl, rfl⟩
  by_cases hcap : min size 100 < ps.length
  · simp (maxSteps := 1000000) (disch := omega) only [↓sy1, sy2, sy3, readOK, sy5, sy6, Nat.reduceEqDiff, ↓reduceIte, sy7, sy8, sy9, sya, oneOf, syb, syc, Nat.reduceAdd, Nat.reduceMul, syd, sye, syf, syg, syh, reduceCtorEq, hlen, show ((min size 100 : Nat) : Int) < (ps.length : Int) from by omega, decide_true]
    exact R_out ⟨by simp [ccode, hps, hcap], G, by simpa [cdone, ccode, hps, hcap] using h, .refl _ _ _⟩
  simp (maxSteps := 1000000) (disch := omega) only [↓sy1, sy2, sy3, readOK, sy5, sy6, Nat.reduceEqDiff, ↓reduceIte, sy7, sy8, sy9, sya, oneOf, syb, syc, Nat.reduceAdd, Nat.reduceMul, syd, sye, syf, syg, syh, reduceCtorEq, hlen, show ¬ (((min size 100 : Nat) : Int) < (ps.length : Int)) from by omega, decide_false]
  have hbadR : ∀ {w' : World}, Grow w1 w' → anyOut (D.first.length - size - 1) ps → R ((Value.int .i64 2) = .int .i64 (ccode D.first.length size ps) ∧ ∃ G', RLogAt G' κ w' q size came (cdone size D ps) ∧ Ext (fun c => c = κ) G w1 G' w') := fun {w'} hg hany =>
    R_out ⟨by simp [ccode, hps, hcap, hany], G, by simpa [cdone, ccode, hps, hcap, hany] using h.grow hg, .grow hg⟩
  refine loop_rule (fun e w' => ∃ i : Nat, i ≤ ps.length ∧ e 5 = .int .i64 i ∧ e 1 = v ∧ e 0 = .pointer (some ⟨q, 0, none⟩) ∧ (∀ j (hj : j < ps.length), j < i → ¬ outOf (D.first.length - size - 1) ps[j].1) ∧ Grow w1 w') (fun e _ => ps.length - (intOf (e 5)).toNat)
    ⟨0, by omega, by simp [upd, updO, ev], by simp [upd, updO, ev], by simp [upd, updO, ev], fun j _ hj => by omega, Keep.refl _ _⟩ ?_
  rintro e w2 ⟨i, hi, e5, e1, e0, hgood, hg2⟩
  by_cases hlt : i < ps.length
  · simp (maxSteps := 1000000) (disch := omega) only [↓sy1, sy2, sy3, readOK, sy5, sy6, Nat.reduceEqDiff, ↓reduceIte, sy7, sy8, sy9, sya, oneOf, syb, syc, Nat.reduceAdd, Nat.reduceMul, syd, sye, syf, syg, syh, reduceCtorEq, F27_L0, e5, e1, e0, hlen, Int.ofNat_lt, hlt, decide_true]
    refine draw27_0 (fun _ => False) ?_
    have hgd : Grow w2 w2.drew := (Keep.refl _ _).drew
    generalize w2.drew = w3 at hgd ⊢
    have hg3 := hg2.trans hgd
    obtain ⟨b, o, u, hia, hc0, _, _⟩ := (hp.grow hg3).parts hlt
    by_cases h0 : ps[i].1 < 0
    · simp (maxSteps := 1000000) (disch := omega) only [↓sy1, sy2, sy3, readOK, sy5, sy6, Nat.reduceEqDiff, ↓reduceIte, sy7, sy8, sy9, sya, oneOf, syb, syc, Nat.reduceAdd, Nat.reduceMul, syd, sye, syf, syg, syh, reduceCtorEq, PL27_0, e5, e1, e0, hia, hc0, h0, decide_true, false_implies]
      exact ⟨Keep.refl _ _, hbadR hg3 ⟨_, List.getElem_mem hlt, .inl h0⟩⟩
    · simp (maxSteps := 1000000) (disch := omega) only [↓sy1, sy2, sy3, readOK, sy5, sy6, Nat.reduceEqDiff, ↓reduceIte, sy7, sy8, sy9, sya, oneOf, syb, syc, Nat.reduceAdd, Nat.reduceMul, syd, sye, syf, syg, syh, reduceCtorEq, PL27_0, e5, e1, e0, hia, hc0, h0, decide_false, false_implies]
      refine call0 (rpages_spec (h.grow hg3)) ?_
      rintro _ w4 ⟨rfl, hg4⟩
      by_cases h1 : ((D.first.length - size - 1 : Nat) : Int) ≤ ps[i].1
      · simp (maxSteps := 1000000) (disch := omega) only [↓sy1, sy2, sy3, readOK, sy5, sy6, Nat.reduceEqDiff, ↓reduceIte, sy7, sy8, sy9, sya, oneOf, syb, syc, Nat.reduceAdd, Nat.reduceMul, syd, sye, syf, syg, syh, reduceCtorEq, e5, e1, e0, h1, decide_true]
        exact ⟨hg4, hbadR (hg3.trans hg4) ⟨_, List.getElem_mem hlt, .inr h1⟩⟩
      · simp (maxSteps := 1000000) (disch := omega) only [↓sy1, sy2, sy3, readOK, sy5, sy6, Nat.reduceEqDiff, ↓reduceIte, sy7, sy8, sy9, sya, oneOf, syb, syc, Nat.reduceAdd, Nat.reduceMul, syd, sye, syf, syg, syh, reduceCtorEq, e5, e1, e0, h1, decide_false]
        refine ⟨hg4, R_out ⟨⟨i + 1, by omega, rfl, fun j hj hji => ?_, hg3.trans hg4⟩, ?_⟩⟩
        · by_cases hj' : j = i
          · subst hj'; simp only [outOf]; omega
          · exact hgood j hj (by omega)
        · simp only [intOf]; omega
  have hie : i = ps.length := by omega
  subst hie
  have hany : ¬ anyOut (D.first.length - size - 1) ps := by
    rintro ⟨p, hp', hop⟩
    obtain ⟨j, hj, rfl⟩ := List.getElem_of_mem hp'
    exact hgood j hj hj hop
  have h0 := anyOut_nonneg hany
  have hcgood : goodP ps → ccode D.first.length size ps = 0 := fun hg => by simp [ccode, hps, hcap, hany, hg]
  have hcbad : ¬ goodP ps → ccode D.first.length size ps = 3 ∧ cdone size D ps = D := fun hg => by simp [cdone, ccode, hps, hcap, hany, hg]
  have hout : ∀ {w' : World}, Grow w1 w' → ¬ goodP ps → R ((Value.int .i64 3) = .int .i64 (ccode D.first.length size ps) ∧ ∃ G', RLogAt G' κ w' q size came (cdone size D ps) ∧ Ext (fun c => c = κ) G w1 G' w') := fun {w'} hgw hbad => by
    obtain ⟨c1, c2⟩ := hcbad hbad
    exact R_out ⟨by rw [c1], G, by rw [c2]; exact h.grow hgw, .grow hgw⟩
  obtain ⟨qs, hq1, hq2, hq3⟩ := toQ (R := fun u l => Held G κ w1 u (bs l)) ps xs hp.2.1 hp.2.2.2
  subst hq2
  have hql : qs.length = ps.length := by rw [← hq1]; simp
  have hqi : ∀ i (hi : i < ps.length), ps[i] = (qs[i]'(by omega)).1 := fun i hi => by subst hq1; simp
  clear hgood hlt hi
  simp (maxSteps := 1000000) (disch := omega) only [↓sy1, sy2, sy3, readOK, sy5, sy6, Nat.reduceEqDiff, ↓reduceIte, sy7, sy8, sy9, sya, oneOf, syb, syc, Nat.reduceAdd, Nat.reduceMul, syd, sye, syf, syg, syh, reduceCtorEq, F27_L0, e5, e1, e0, hlen, show ¬ ((ps.length : Int) < (ps.length : Int)) from by omega, decide_false]
  refine loop_rule (fun e w' => ∃ (i : Nat) (srt : List Qg), i ≤ ps.length ∧ e 7 = .int .i64 i ∧ e 1 = v ∧ e 0 = .pointer (some ⟨q, 0, none⟩) ∧ w'.ownsRow w2.heap.size 37 2 (e 6) srt.length (cellsQ srt) ∧ riseQ srt ∧ srt.Perm (qs.take i) ∧
      (∀ j (hj : j < ps.length), j < i → ps[j].2.length = 512) ∧ Grow w2 w') (fun e _ => ps.length - (intOf (e 7)).toNat)
    ⟨0, [], by omega, by simp [upd, updO, ev], by simp [upd, updO, ev, e1], by simp [upd, updO, ev, e0], by simpa [upd, updO, ev] using (show w2.ownsRow w2.heap.size 37 2 (.slice none 0 0) ([] : List Qg).length (cellsQ []) from World.ownsRow_nil w2 _ _ _), List.Pairwise.nil, by simp, fun j _ hj => by omega, Keep.refl _ _⟩ ?_
  clear e5 e1 e0
  rintro e w3 ⟨i, srt, hi, e7, e1, e0, ho3, hrise, hperm, h512, hg3⟩
  have hgw3 := hg2.trans hg3
  have hsl : srt.length = i := by rw [hperm.length_eq, List.length_take]; omega
  have hheld : ∀ r ∈ srt, Held G κ w1 r.2 (bs r.1.2) := fun r hr => hq3 r (List.mem_of_mem_take (hperm.mem_iff.1 hr))
  by_cases hlt : i < ps.length
  · obtain ⟨b, o, u, hia, hc0, hc1, hu⟩ := (hp.grow hgw3).parts hlt
    have hul : ∀ w', lenF w' 0 u = some (.int .i64 ps[i].2.length) := fun w' => Has.lenB hu.1 w'
    have hu2 : u = (qs[i]'(by omega)).2 := by
      have h1 := (cellsQ_get qs i (by omega)).2
      obtain ⟨_, u', h2, h3⟩ := hp.2.2.2 i hlt
      obtain ⟨b', o', hia', _, hc1'⟩ := Has.atQ (hp.grow hgw3).1 (i := i) (by omega)
      rw [hia] at hia'; cases hia'
      rw [hc1] at hc1'; exact Option.some.inj hc1'
    have hpi : ps[i] = (qs[i]'(by omega)).1 := hqi i hlt
    by_cases hb5 : ¬ (ps[i].2.length = 512)
    · simp (maxSteps := 1000000) (disch := omega) only [↓sy1, sy2, sy3, readOK, sy5, sy6, Nat.reduceEqDiff, ↓reduceIte, sy7, sy8, sy9, sya, oneOf, syb, syc, Nat.reduceAdd, Nat.reduceMul, syd, sye, syf, syg, syh, reduceCtorEq, F27_L2, e7, e1, e0, hlen, Int.ofNat_lt, hlt, decide_true, hia, hc1, hul, show ¬ ((ps[i].2.length : Int) = 512) from by omega, decide_false, Bool.not_false]
      exact hout hgw3 (fun hg => hb5 (hg.2 _ (List.getElem_mem hlt)))
    have hb5 := Decidable.of_not_not hb5
    have hslen : ∀ w', lenF w' 0 (e 6) = some (.int .i64 i) := fun w' => by rw [(Has.own ho3).lenk (by omega), cellsQ_length, hsl, Nat.mul_div_cancel_left _ (by omega)]
    generalize hsv : e 6 = sv at ho3 hslen
    simp (maxSteps := 1000000) (disch := omega) only [↓sy1, sy2, sy3, readOK, sy5, sy6, Nat.reduceEqDiff, ↓reduceIte, sy7, sy8, sy9, sya, oneOf, syb, syc, Nat.reduceAdd, Nat.reduceMul, syd, sye, syf, syg, syh, reduceCtorEq, F27_L2, e7, e1, e0, hsv, hlen, hslen, Int.ofNat_lt, hlt, decide_true, hia, hc1, hul, show ((ps[i].2.length : Int) = 512) = True from by simp [hb5], decide_true, Bool.not_true]
    refine loop_rule (fun e w' => ∃ m : Nat, m ≤ i ∧ e 8 = .int .i64 m ∧ e 7 = .int .i64 i ∧ e 6 = sv ∧ e 1 = v ∧ e 0 = .pointer (some ⟨q, 0, none⟩) ∧ (∀ j (hj : j < srt.length), m ≤ j → ps[i].1 < srt[j].1.1) ∧ Grow w3 w') (fun e _ => (intOf (e 8)).toNat)
      ⟨i, Nat.le_refl _, by simp [upd, updO, ev], by simp [upd, updO, ev, e7], by simp [upd, updO, ev, hsv], by simp [upd, updO, ev, e1], by simp [upd, updO, ev, e0], fun j hj hmj => by omega, Keep.refl _ _⟩ ?_
    clear e7 e1 e0 hsv
    rintro e w4 ⟨m, hm, e8, e7, e6, e1, e0, habove, hg4⟩
    have hgw4 := hgw3.trans hg4
    have hsm : ∀ {w'}, Grow w4 w' → Has 2 w' sv (cellsQ srt) := fun hg => (Has.own ho3).grow (hg4.trans hg)
    have hpa : ∀ {w'}, Grow w4 w' → ∃ b o, iaF 2 v (.int .i64 i) = some (.pointer (some ⟨b, o, none⟩)) ∧ w'.cell? ⟨b, o, none⟩ = some (.int .i64 ps[i].1) := fun hg => by
      obtain ⟨b, o, _, h1, h2, _⟩ := (hp.grow (hgw4.trans hg)).parts hlt
      exact ⟨b, o, h1, h2⟩
    have hsr : ∀ (h : 0 < m) {w' : World}, Grow w4 w' → ∃ b o, iaF 2 sv (.int .i64 ((m : Int) - 1)) = some (.pointer (some ⟨b, o, none⟩)) ∧ w'.cell? ⟨b, o, none⟩ = some (.int .i64 (srt[m - 1]'(by omega)).1.1) := fun h {w'} hg => by
      obtain ⟨b, o, h1, h2, _⟩ := (hsm hg).atQ (i := m - 1) (by omega)
      rw [show ((m - 1 : Nat) : Int) = (m : Int) - 1 from by omega] at h1
      exact ⟨b, o, h1, h2⟩
    simp (maxSteps := 1000000) (disch := omega) only [↓sy1, sy2, sy3, readOK, sy5, sy6, Nat.reduceEqDiff, ↓reduceIte, sy7, sy8, sy9, sya, oneOf, syb, syc, Nat.reduceAdd, Nat.reduceMul, syd, sye, syf, syg, syh, reduceCtorEq, F27_L1]
    refine draw27_1 (fun _ => False) ?_
    have hgd : Grow w4 w4.drew := (Keep.refl _ _).drew
    generalize w4.drew = w5 at hgd ⊢
    obtain ⟨bp, op, hpia, hpc⟩ := hpa hgd
    by_cases hB : ∃ h : 0 < m, ps[i].1 < (srt[m - 1]'(by omega)).1.1
    · obtain ⟨hm0, hB⟩ := hB
      obtain ⟨bs', os', hsia, hsc⟩ := hsr hm0 hgd
      simp (maxSteps := 1000000) (disch := omega) only [↓sy1, sy2, sy3, readOK, sy5, sy6, Nat.reduceEqDiff, ↓reduceIte, sy7, sy8, sy9, sya, oneOf, syb, syc, Nat.reduceAdd, Nat.reduceMul, syd, sye, syf, syg, syh, reduceCtorEq, PL27_1, e8, e7, e6, e1, e0, show ((0 : Int) < (m : Int)) from by omega, hsia, hsc, hpia, hpc, hB, decide_true]
      refine R_out ⟨⟨m - 1, by omega, by congr 1; omega, fun j hj hmj => ?_, hg4.trans hgd⟩, ?_⟩
      · by_cases hjm : j = m - 1
        · subst hjm; exact hB
        · exact habove j hj (by omega)
      · simp only [intOf]; omega
    by_cases hE : ∃ h : 0 < m, (srt[m - 1]'(by omega)).1.1 = ps[i].1
    · obtain ⟨hm0, hE⟩ := hE
      obtain ⟨bs', os', hsia, hsc⟩ := hsr hm0 hgd
      rw [hE] at hsc
      have hbad : ¬ goodP ps := fun hg => by
        have h1 := hg.1
        have hmem := hperm.mem_iff.1 (List.getElem_mem (show m - 1 < srt.length by omega))
        obtain ⟨k, hk, hke⟩ := List.getElem_of_mem hmem
        rw [List.length_take] at hk
        rw [List.getElem_take] at hke
        have hne := List.pairwise_iff_getElem.1 h1 k i (by simp; omega) (by simpa using hlt) (by omega)
        rw [List.getElem_map, List.getElem_map, hqi k (by omega), hke, hE] at hne
        exact hne rfl
      simp (maxSteps := 1000000) (disch := omega) only [↓sy1, sy2, sy3, readOK, sy5, sy6, Nat.reduceEqDiff, ↓reduceIte, sy7, sy8, sy9, sya, oneOf, syb, syc, Nat.reduceAdd, Nat.reduceMul, syd, sye, syf, syg, syh, reduceCtorEq, PL27_1, e8, e7, e6, e1, e0, show ((0 : Int) < (m : Int)) from by omega, hsia, hsc, hpia, hpc, show ¬ (ps[i].1 < ps[i].1) from by omega, decide_true, decide_false]
      refine draw27_2 (fun _ => False) ?_
      have hgd2 : Grow w5 w5.drew := (Keep.refl _ _).drew
      generalize w5.drew = w6 at hgd2 ⊢
      have hsc6 := hgd2.gcell hsc
      have hpc6 := hgd2.gcell hpc
      simp (maxSteps := 1000000) (disch := omega) only [↓sy1, sy2, sy3, readOK, sy5, sy6, Nat.reduceEqDiff, ↓reduceIte, sy7, sy8, sy9, sya, oneOf, syb, syc, Nat.reduceAdd, Nat.reduceMul, syd, sye, syf, syg, syh, reduceCtorEq, PL27_2, e8, e7, e6, e1, e0, show ((0 : Int) < (m : Int)) from by omega, hsia, hsc6, hpia, hpc6, decide_true]
      exact hout ((hgw4.trans hgd).trans hgd2) hbad
    have hbelow : ∀ j (hj : j < srt.length), j < m → srt[j].1.1 < ps[i].1 := fun j hj hjm => by
      have h1 : ¬ (ps[i].1 < (srt[m - 1]'(by omega)).1.1) := fun h => hB ⟨by omega, h⟩
      have h2 : ¬ ((srt[m - 1]'(by omega)).1.1 = ps[i].1) := fun h => hE ⟨by omega, h⟩
      by_cases hj1 : j = m - 1
      · subst hj1; omega
      · have := riseQ_get hrise (i := j) (j := m - 1) (by omega) (by omega); omega
    have hins := riseQ_ins (q := qs[i]'(by omega)) hrise (m := m) (by omega) (fun j hj hjm => by rw [← hpi]; exact hbelow j hj hjm) (fun j hj hjm => by rw [← hpi]; exact habove j hj hjm)
    have hip := ins_perm srt (qs.take i) (qs[i]'(by omega)) m hperm
    rw [← List.take_succ_eq_append_getElem (by omega)] at hip
    have hgd2 : Grow w5 w5.drew := (Keep.refl _ _).drew
    have hsl2 := (Has.own ho3).slcToK (m := m) (by rw [cellsQ_length]; omega) (by omega)
    have hsl3 := (Has.own ho3).slcFromK (m := m) (by rw [cellsQ_length]; omega) (by omega)
    rw [cellsQ_take srt m (by omega)] at hsl2
    rw [cellsQ_drop srt m (by omega)] at hsl3
    obtain ⟨v1, hv1, hH1⟩ := hsl2
    obtain ⟨v2, hv2, hH2⟩ := hsl3
    have hqc : isCell (qs[i]'(by omega)).2 = true := (hq3 _ (List.getElem_mem (by omega))).1.isCell
    have hcc : ∀ l : List Qg, (∀ r ∈ l, r ∈ srt) → ∀ u ∈ cellsQ l, isCell u = true := fun l hs => cellsQ_cell (fun r hr => hheld r (hs r hr))
    have hsv : ∀ b, sv.ownBlock = some b → b < w3.heap.size := fun b hb => (World.ownsRow.lt ho3 b hb).2
    by_cases hmz : m = 0
    all_goals first
      | (simp (maxSteps := 1000000) (disch := omega) only [↓sy1, sy2, sy3, readOK, sy5, sy6, Nat.reduceEqDiff, ↓reduceIte, sy7, sy8, sy9, sya, oneOf, syb, syc, Nat.reduceAdd, Nat.reduceMul, syd, sye, syf, syg, syh, reduceCtorEq, PL27_1, e8, e7, e6, e1, e0, show ¬ ((0 : Int) < (m : Int)) from by omega, decide_false, false_implies])
      | (obtain ⟨bs', os', hsia, hsc⟩ := hsr (by omega) hgd
         have hnb : ¬ (ps[i].1 < (srt[m - 1]'(by omega)).1.1) := fun h => hB ⟨by omega, h⟩
         simp (maxSteps := 1000000) (disch := omega) only [↓sy1, sy2, sy3, readOK, sy5, sy6, Nat.reduceEqDiff, ↓reduceIte, sy7, sy8, sy9, sya, oneOf, syb, syc, Nat.reduceAdd, Nat.reduceMul, syd, sye, syf, syg, syh, reduceCtorEq, PL27_1, e8, e7, e6, e1, e0, show ((0 : Int) < (m : Int)) from by omega, hsia, hsc, hpia, hpc, hnb, decide_true, decide_false])
    all_goals
      refine draw27_2 (fun _ => False) ?_
      have hgd2 : Grow w5 w5.drew := (Keep.refl _ _).drew
      generalize w5.drew = w6 at hgd2 ⊢
    all_goals first
      | (simp (maxSteps := 1000000) (disch := omega) only [↓sy1, sy2, sy3, readOK, sy5, sy6, Nat.reduceEqDiff, ↓reduceIte, sy7, sy8, sy9, sya, oneOf, syb, syc, Nat.reduceAdd, Nat.reduceMul, syd, sye, syf, syg, syh, reduceCtorEq, PL27_2, e8, e7, e6, e1, e0, show ¬ ((0 : Int) < (m : Int)) from by omega, decide_false, false_implies, hv1])
      | (have hsc6 := hgd2.gcell hsc
         have hpc6 := hgd2.gcell hpc
         have hne : ¬ ((srt[m - 1]'(by omega)).1.1 = ps[i].1) := fun h => hE ⟨by omega, h⟩
         simp (maxSteps := 1000000) (disch := omega) only [↓sy1, sy2, sy3, readOK, sy5, sy6, Nat.reduceEqDiff, ↓reduceIte, sy7, sy8, sy9, sya, oneOf, syb, syc, Nat.reduceAdd, Nat.reduceMul, syd, sye, syf, syg, syh, reduceCtorEq, PL27_2, e8, e7, e6, e1, e0, show ((0 : Int) < (m : Int)) from by omega, hsia, hsc6, hpia, hpc6, hne, decide_true, decide_false, hv1])
    all_goals
      have hgw6 := (hgw4.trans hgd).trans hgd2
      have hg36 : Grow w3 w6 := (hg4.trans hgd).trans hgd2
      have hs36 := hg36.size
      refine app_own elemPg (by simp only [upd_at, Nat.reduceEqDiff, reduceIte, ev_tmp, ev_const, List.map_cons, List.map_nil]) (by simp only [upd_at, Nat.reduceEqDiff, reduceIte, ev_tmp, ev_const, List.map_cons, List.map_nil]) (World.ownsRow_nil w6 w6.heap.size _ 2) (hH1.grow hg36) (m := m) (by rw [cellsQ_length, List.length_take]; omega) (hcc _ (fun r hr => List.mem_of_mem_take hr)) (by omega) (by omega) (Nat.le_refl _) ?_
      intro x7 w7 ho7 hgr7
      have hk7 := Keep.grown hgr7
      have hg67 : Grow w6 w7 := hk7.mono (fun b hb h => by cases h)
      rw [List.nil_append, Nat.zero_add] at ho7
      obtain ⟨b7, o7, u7, hia7, hld7c, hld7d, _⟩ := (hp.grow (hgw6.trans hg67)).parts hlt
      have hu7 : u7 = (qs[i]'(by omega)).2 := by
        obtain ⟨b', o', hia', _, hc1'⟩ := Has.atQ (hp.grow (hgw6.trans hg67)).1 (i := i) (by omega)
        rw [hia7] at hia'; cases hia'
        rw [hld7d] at hc1'; exact Option.some.inj hc1'
      rw [hu7] at hld7d
      rw [hpi] at hld7c
      simp (maxSteps := 1000000) (disch := omega) only [↓sy1, sy2, sy3, readOK, sy5, sy6, Nat.reduceEqDiff, ↓reduceIte, sy7, sy8, sy9, sya, oneOf, syb, syc, Nat.reduceAdd, Nat.reduceMul, syd, sye, syf, syg, syh, reduceCtorEq, e8, e7, e6, e1, e0, hia7, loadN2 hld7c hld7d, fill_gen, fill_of2, fillF_p (a := .int .i64 0) (b := .slice none 0 0)]
      have hgap : Grow w7 (w7.alloc (.cells #[.int .i64 (qs[i]'(by omega)).1.1, (qs[i]'(by omega)).2] 37)) := (Keep.refl _ _).alloc _
      refine app_own elemPg (by simp only [upd_at, Nat.reduceEqDiff, reduceIte, ev_tmp, ev_const, List.map_cons, List.map_nil]) (by simp only [upd_at, Nat.reduceEqDiff, reduceIte, ev_tmp, ev_const, List.map_cons, List.map_nil]) (own_keepk ho7 hgap (fun _ _ => id)) Has.newp (m := 1) rfl (by simpa [isCell] using hqc) (by omega) (by omega) (by have := hg67.size; have := hgap.size; omega) ?_
      intro x8 w8 ho8 hgr8
      have hk8 : Keep (fun b => some b = x7.ownBlock) w7 w8 := (Keep.grow hgap).trans (Keep.grown hgr8)
      have hg68 : Grow w6 w8 := hg67.then hk8 (fun b hb h => by have := (World.ownsRow.lt ho7 b h.symm).1; omega)
      have hH28 : Has 2 w8 v2 (cellsQ (srt.drop m)) := hH2.grow (hg36.trans hg68)
      simp (maxSteps := 1000000) (disch := omega) only [↓sy1, sy2, sy3, readOK, sy5, sy6, Nat.reduceEqDiff, ↓reduceIte, sy7, sy8, sy9, sya, oneOf, syb, syc, Nat.reduceAdd, Nat.reduceMul, syd, sye, syf, syg, syh, reduceCtorEq, e8, e7, e6, e1, e0, hv2]
      refine app_own elemPg (by simp only [upd_at, Nat.reduceEqDiff, reduceIte, ev_tmp, ev_const, List.map_cons, List.map_nil]) (by simp only [upd_at, Nat.reduceEqDiff, reduceIte, ev_tmp, ev_const, List.map_cons, List.map_nil]) ho8 hH28 (m := i - m) (by rw [cellsQ_length, List.length_drop]; omega) (hcc _ (fun r hr => List.mem_of_mem_drop hr)) (by omega) (by omega) (by have := hg68.size; omega) ?_
      intro x9 w9 ho9 hgr9
      have hk9 : Keep (fun b => some b = x8.ownBlock) w8 w9 := Keep.grown hgr9
      have hg69 : Grow w6 w9 := hg68.then hk9 (fun b hb h => by have := (World.ownsRow.lt ho8 b h.symm).1; omega)
      simp (maxSteps := 1000000) (disch := omega) only [↓sy1, sy2, sy3, readOK, sy5, sy6, Nat.reduceEqDiff, ↓reduceIte, sy7, sy8, sy9, sya, oneOf, syb, syc, Nat.reduceAdd, Nat.reduceMul, syd, sye, syf, syg, syh, reduceCtorEq, e8, e7, e6, e1, e0]
      have hcells : cellsQ (srt.take m) ++ [.int .i64 (qs[i]'(by omega)).1.1, (qs[i]'(by omega)).2] ++ cellsQ (srt.drop m) = cellsQ (srt.take m ++ [qs[i]'(by omega)] ++ srt.drop m) := by
        rw [cellsQ_append, cellsQ_append]; rfl
      rw [hcells] at ho9
      refine R_out ⟨⟨i + 1, srt.take m ++ [qs[i]'(by omega)] ++ srt.drop m, by omega, rfl, ?_, hins, hip, fun j hj hji => ?_, hg3.trans (hg36.trans hg69)⟩, ?_⟩
      · have hln : (srt.take m ++ [qs[i]'(by omega)] ++ srt.drop m).length = m + 1 + (i - m) := by simp; omega
        rw [hln]
        exact own_basek ho9 (by have := hg3.size; omega)
      · by_cases hji' : j = i
        · subst hji'; exact hb5
        · exact h512 j hj (by omega)
      · simp only [intOf]; omega
  · have hie : i = ps.length := by omega
    subst hie
    rw [List.take_of_length_le (by omega)] at hperm
    have hmapq : ps.map (·.1) = qs.map (·.1.1) := by rw [← hq1, List.map_map]; rfl
    have hnd : (ps.map (·.1)).Nodup := by
      rw [hmapq]
      refine (hperm.map (·.1.1)).nodup_iff.1 ?_
      exact List.Pairwise.imp (fun h => by omega) hrise
    have hgood : goodP ps := ⟨hnd, fun p hp' => by
      obtain ⟨j, hj, rfl⟩ := List.getElem_of_mem hp'
      exact h512 j hj hj⟩
    have hmem : ∀ r ∈ srt, r.1 ∈ ps := fun r hr => by rw [← hq1]; exact List.mem_map.2 ⟨r, hperm.mem_iff.1 hr, rfl⟩
    have hSP : srt.map (fun r => (r.1.1.toNat, r.1.2)) = sortP ps := by
      refine sortP_unique hnd h0 ?_ (fun n b => ?_)
      · rw [List.map_map, List.pairwise_map]
        have hr := hrise
        unfold riseQ at hr
        rw [List.pairwise_map] at hr
        refine hr.imp_of_mem (fun {a b} ha hb hab => ?_)
        have h1 := h0 _ (hmem a ha)
        have h2 := h0 _ (hmem b hb)
        simp only [Function.comp]; omega
      · simp only [List.mem_map, Prod.mk.injEq]
        constructor
        · rintro ⟨r, hr, rfl, rfl⟩
          have h1 := h0 _ (hmem r hr)
          rw [show ((r.1.1.toNat : Nat) : Int) = r.1.1 from by omega]
          exact hmem r hr
        · intro hm
          rw [← hq1] at hm
          obtain ⟨r, hr, hre⟩ := List.mem_map.1 hm
          exact ⟨r, hperm.mem_iff.2 hr, by rw [hre]; simp, by rw [hre]⟩
    have hcc := hcgood hgood
    have hcd : cdone size D ps = grouped size D (sortP ps) := by simp [cdone, hps, hcc]
    rw [hcc, hcd]
    have hκ := h.1
    have hx3 : Ext (fun c => c = κ) G w1 (G.new w1.heap.size) w3 := .newB hgw3
    have hlog3 : RLogAt (G.new w1.heap.size) κ w3 q size came D := h.ext (K := fun _ => False) (.newB hgw3) id id
    have hh3 : ∀ r ∈ srt, Held (G.new w1.heap.size) κ w3 r.2 (bs r.1.2) := fun r hr => (hheld r hr).ext hx3
    have hsown : ∀ b, (e 6).ownBlock = some b → b < w3.heap.size ∧ (G.new w1.heap.size).own b ≠ κ := fun b hb => by
      obtain ⟨h1, h2⟩ := World.ownsRow.lt ho3 b hb
      exact ⟨h2, by rw [Gh.new_own (by have := hg2.size; omega)]; exact fun h => hκ h.symm⟩
    have hsH := Has.own ho3
    generalize e6 : e 6 = sv at hsown hsH
    have hslen : ∀ w', lenF w' 0 sv = some (.int .i64 ps.length) := fun w' => by rw [hsH.lenk (by omega), cellsQ_length, hsl, Nat.mul_div_cancel_left _ (by omega)]
    generalize G.new w1.heap.size = G3 at hx3 hlog3 hh3 hsown
    have hspl := sortP_length ps
    have hspi : ∀ i (hi : i < (sortP ps).length), (sortP ps)[i] = ((srt[i]'(by omega)).1.1.toNat, (srt[i]'(by omega)).1.2) := fun i hi => by
      have : ∀ (l : List (Nat × List UInt8)) (hl : i < l.length), l = sortP ps → l[i] = (sortP ps)[i] := fun l hl he => by subst he; rfl
      rw [← this _ (by rw [List.length_map]; omega) hSP, List.getElem_map]
    simp (maxSteps := 1000000) (disch := omega) only [↓sy1, sy2, sy3, readOK, sy5, sy6, Nat.reduceEqDiff, ↓reduceIte, sy7, sy8, sy9, sya, oneOf, syb, syc, Nat.reduceAdd, Nat.reduceMul, syd, sye, syf, syg, syh, reduceCtorEq, F27_L2, e7, e1, e0, e6, hlen, show ¬ ((ps.length : Int) < (ps.length : Int)) from by omega, decide_false]
    have hqb := sortP_bytes h0 hgood.2
    have hql2 := sortP_lt (pages := D.first.length - size - 1) h0 hany
    refine loop_rule (fun e w' => ∃ (i : Nat) (G' : Gh) (nv : Value), i ≤ ps.length ∧ e 11 = .int .i64 i ∧ e 10 = nv ∧ e 6 = sv ∧ e 0 = .pointer (some ⟨q, 0, none⟩) ∧
        RLogAt G' κ w' q size came (adds D (copyOps 0 ((sortP ps).take i))) ∧ w'.ownsRow w3.heap.size 3 1 nv i (ints (zs (((sortP ps).take i).map (·.1)))) ∧ (∀ b, nv.ownBlock = some b → G'.own b = κ + 1 ∧ G'.fix b = 0) ∧ Ext (fun c => c = κ) G3 w3 G' w') (fun e _ => ps.length - (intOf (e 11)).toNat)
      ⟨0, G3, .slice none 0 0, by omega, by simp [upd, updO, ev], by simp [upd, updO, ev], by simp [upd, updO, ev, e6], by simp [upd, updO, ev, e0], hlog3, World.ownsRow_nil w3 _ _ _, fun b hb => by simp [Value.ownBlock] at hb, .refl _ _ _⟩ ?_
    clear e7 e1 e0 e6 ho3
    rintro e w4 ⟨i, G4, nv, hi4, e11, e10, e6, e0, hlog4, hn4, hno4, hx4⟩
    have hsH4 : ∀ {w'}, Grow w4 w' → Has 2 w' sv (cellsQ srt) := fun hg => (hsH.keep hx4.keep (fun b hb _ => (hsown b hb).2)).grow hg
    obtain ⟨_, _, _, ho4, p, hq4, hd4⟩ := id hlog4
    have hqp : ∀ {w'}, Grow w4 w' → w'.cell? ⟨q, 0, none⟩ = some (.pointer (some ⟨p, 0, none⟩)) := fun hg => by rw [cell_block (hg.gheap hq4)]; rfl
    have hf : (adds D (copyOps 0 ((sortP ps).take i))).first = D.first := adds_first _ _
    have hops : (adds D (copyOps 0 ((sortP ps).take i))).ops.length ≤ D.ops.length + i := by
      rw [adds_ops, List.length_append, copyOps_length]; simp; omega
    by_cases hlt4 : i < ps.length
    · have hltp : i < (sortP ps).length := by omega
      have hlts : i < srt.length := by omega
      simp (maxSteps := 1000000) (disch := omega) only [↓sy1, sy2, sy3, readOK, sy5, sy6, Nat.reduceEqDiff, ↓reduceIte, sy7, sy8, sy9, sya, oneOf, syb, syc, Nat.reduceAdd, Nat.reduceMul, syd, sye, syf, syg, syh, reduceCtorEq, F27_L3, e11, e10, e6, e0, hslen, Int.ofNat_lt, hlt4, decide_true]
      refine draw27_3 (fun _ => False) ?_
      have hgd : Grow w4 w4.drew := (Keep.refl _ _).drew
      generalize w4.drew = w5 at hgd ⊢
      obtain ⟨b5, o5, hia5, hc50, hc51⟩ := (hsH4 hgd).atQ hlts
      have hu5 : HasB w5 srt[i].2 srt[i].1.2 := ((hh3 _ (List.getElem_mem hlts)).ext hx4).1.grow hgd
      have hb5 : srt[i].1.2.length = 512 := hgood.2 _ (hmem _ (List.getElem_mem hlts))
      simp (maxSteps := 1000000) (disch := omega) only [↓sy1, sy2, sy3, readOK, sy5, sy6, Nat.reduceEqDiff, ↓reduceIte, sy7, sy8, sy9, sya, oneOf, syb, syc, Nat.reduceAdd, Nat.reduceMul, syd, sye, syf, syg, syh, reduceCtorEq, PL27_3, e11, e10, e6, e0, hqp hgd, hia5, hc51]
      rw [show (1 : Int) + (i : Int) = ((1 + i : Nat) : Int) from by omega]
      refine call0 (rwrite_spec (hd4.grow hgd) (n := 1 + i) (by rw [hf]; omega) hb5 hu5 (by omega)) ?_
      rintro _ w6 ⟨rfl, G6, hd6, hx6⟩
      have hx46 : Ext (fun c => c = κ) G4 w4 G6 w6 := (Ext.grow hgd).trans hx6
      have hlog6 := hlog4.put (E := (adds D (copyOps 0 ((sortP ps).take i))).add (.wr (1 + i) srt[i].1.2)) (hqp (Keep.refl _ _)) hx46 rfl hd6
      have hx36 := hx4.trans hx46
      have hn6 : w6.ownsRow w3.heap.size 3 1 nv i (ints (zs (((sortP ps).take i).map (·.1)))) := own_keep hn4 hx46.keep (fun b hb h => by rw [(hno4 b hb).1] at h; omega)
      have hno6 : ∀ b, nv.ownBlock = some b → G6.own b = κ + 1 ∧ G6.fix b = 0 := fun b hb => by
        have hbl := (World.ownsRow.lt hn4 b hb).2
        rw [hx46.own b hbl, hx46.fixe b hbl (by rw [(hno4 b hb).1]; omega)]
        exact hno4 b hb
      obtain ⟨b6, o6, hia6, hc60, _⟩ := (hsH.keep hx36.keep (fun b hb _ => (hsown b hb).2)).atQ hlts
      simp (maxSteps := 1000000) (disch := omega) only [↓sy1, sy2, sy3, readOK, sy5, sy6, Nat.reduceEqDiff, ↓reduceIte, sy7, sy8, sy9, sya, oneOf, syb, syc, Nat.reduceAdd, Nat.reduceMul, syd, sye, syf, syg, syh, reduceCtorEq, e11, e10, e6, e0, hia6, hc60]
      have hga : Grow w6 (w6.alloc (.cells #[.int .i64 srt[i].1.1] 3)) := (Keep.refl _ _).alloc _
      have hsa : (w6.alloc (.cells #[.int .i64 srt[i].1.1] 3)).heap.size = w6.heap.size + 1 := by simp
      have hs36 := hx36.size
      refine app_own2 elemI (by simp only [upd_at, Nat.reduceEqDiff, reduceIte, ev_tmp, ev_const, List.map_cons, List.map_nil, e10]) (by simp only [upd_at, Nat.reduceEqDiff, reduceIte, ev_tmp, ev_const, List.map_cons, List.map_nil]) (own_grow hn6 hga) Has.new1 (m := 1) rfl (by simp [isCell]) (by omega) (by omega) (by omega) ?_
      intro nv' w7 ho7 hg7 hb7
      have hk7 : Keep (fun b => some b = nv.ownBlock) w6 w7 := (Keep.grow hga).trans (Keep.grown hg7)
      simp (maxSteps := 1000000) (disch := omega) only [↓sy1, sy2, sy3, readOK, sy5, sy6, Nat.reduceEqDiff, ↓reduceIte, sy7, sy8, sy9, sya, oneOf, syb, syc, Nat.reduceAdd, Nat.reduceMul, syd, sye, syf, syg, syh, reduceCtorEq, e11, e10, e6, e0]
      have hx67 : Ext (fun c => c = κ + 1) G6 w6 (G6.upto w6.heap.size (fun _ => κ + 1) (fun _ => 0)) w7 := .app hk7 hno6
      have hx37 : Ext (fun c => c = κ) G3 w3 (G6.upto w6.heap.size (fun _ => κ + 1) (fun _ => 0)) w7 := hx36.past hk7 (fun b hb => (World.ownsRow.lt hn6 b hb).1)
      have hstep : adds D (copyOps 0 ((sortP ps).take (i + 1))) = (adds D (copyOps 0 ((sortP ps).take i))).add (.wr (1 + i) srt[i].1.2) := by
        rw [copyOps_take _ 0 i hltp, adds_snoc, show 1 + 0 + i = 1 + i from by omega, hspi i hltp]
      have hnum : ints (zs (((sortP ps).take (i + 1)).map (·.1))) = ints (zs (((sortP ps).take i).map (·.1))) ++ [.int .i64 srt[i].1.1] := by
        have h1 := h0 _ (hmem _ (List.getElem_mem hlts))
        rw [List.take_succ_eq_append_getElem hltp, List.map_append, zs, List.map_append, ints, List.map_append, hspi i hltp]
        simp only [List.map_cons, List.map_nil, ints, zs]
        rw [show ((srt[i].1.1.toNat : Nat) : Int) = srt[i].1.1 from by omega]
      refine R_out ⟨⟨i + 1, _, nv', by omega, rfl, rfl, by rw [hstep]; exact hlog6.ext hx67 (by omega) (by omega), by rw [hnum]; exact ho7, fun b hb => ?_, hx37⟩, ?_⟩
      · rcases hb7 with hb7 | hb7
        · rw [hb7] at hb
          have hbl := (World.ownsRow.lt hn6 b hb).2
          rw [hx67.own b hbl, show (G6.upto w6.heap.size (fun _ => κ + 1) (fun _ => 0)).fix b = G6.fix b from by simp [Gh.upto, hbl]]
          exact hno6 b hb
        · rw [hb7, hsa] at hb
          simp only [Option.some.injEq] at hb
          subst hb
          simp [Gh.upto, show ¬ (w6.heap.size + 1 < w6.heap.size) from by omega]
      · simp only [intOf]; omega
    · have hie4 : i = ps.length := by omega
      subst hie4
      have htk : (sortP ps).take ps.length = sortP ps := List.take_of_length_le (by omega)
      rw [htk] at hlog4 hd4 hops hf hn4
      have hnlen := (World.ownsRow.lt hn4)
      simp (maxSteps := 1000000) (disch := omega) only [↓sy1, sy2, sy3, readOK, sy5, sy6, Nat.reduceEqDiff, ↓reduceIte, sy7, sy8, sy9, sya, oneOf, syb, syc, Nat.reduceAdd, Nat.reduceMul, syd, sye, syf, syg, syh, reduceCtorEq, F27_L3, e11, e10, e6, e0, hslen, show ¬ ((ps.length : Int) < (ps.length : Int)) from by omega, decide_false, hqp (Keep.refl _ _)]
      refine call0 (rflush_spec hd4 (by omega)) ?_
      rintro _ w8 ⟨rfl, G8, hd8, hx8⟩
      have hlog8 := hlog4.put (E := (adds D (copyOps 0 (sortP ps))).add .fl) (hqp (Keep.refl _ _)) hx8 rfl hd8
      have hnH : Held G4 κ w4 nv (ints (zs ((sortP ps).map (·.1)))) := ⟨Has.own hn4, fun b hb _ => ⟨(hnlen b hb).2, by rw [(hno4 b hb).1]; omega⟩⟩
      simp (maxSteps := 1000000) (disch := omega) only [↓sy1, sy2, sy3, readOK, sy5, sy6, Nat.reduceEqDiff, ↓reduceIte, sy7, sy8, sy9, sya, oneOf, syb, syc, Nat.reduceAdd, Nat.reduceMul, syd, sye, syf, syg, syh, reduceCtorEq, e10, e6, e0]
      refine call0 (rsetHead_spec hlog8 (hnH.ext hx8).1 (by rw [List.length_map]; omega) (by simp [Dsk.add]; omega)) ?_
      rintro _ w9 ⟨G9, hlog9, hx9⟩
      simp (maxSteps := 1000000) (disch := omega) only [↓sy1, sy2, sy3, readOK, sy5, sy6, Nat.reduceEqDiff, ↓reduceIte, sy7, sy8, sy9, sya, oneOf, syb, syc, Nat.reduceAdd, Nat.reduceMul, syd, sye, syf, syg, syh, reduceCtorEq, e10, e6, e0]
      refine call0 (rhome_spec hlog9 ((hnH.ext hx8).ext hx9) (by omega) (fun p hp => ⟨hqb p hp, ?_⟩) (fun i hi => ?_) (by simp [Dsk.add]; omega)) ?_
      · have := hql2 p hp
        simp only [Dsk.add, hf]; omega
      · rw [Dsk.image_fl, Dsk.image_wr, Dsk.image_fl, List.getElem?_set_ne (by omega)]
        have := image_copied (sortP ps) 0 D i hi (by omega)
        rw [show 1 + 0 + i = 1 + i from by omega] at this
        exact this
      rintro _ w10 ⟨G10, hlog10, hx10⟩
      simp (maxSteps := 1000000) (disch := omega) only [↓sy1, sy2, sy3, readOK, sy5, sy6, Nat.reduceEqDiff, ↓reduceIte, sy7, sy8, sy9, sya, oneOf, syb, syc, Nat.reduceAdd, Nat.reduceMul, syd, sye, syf, syg, syh, reduceCtorEq]
      have hgr : grouped size D (sortP ps) = homed size ((((adds D (copyOps 0 (sortP ps))).add .fl).add (.wr 0 (headB ((sortP ps).map (·.1))))).add .fl) (sortP ps) := by rw [grouped_eq, homed]
      exact R_out ⟨G10, by rw [hgr]; exact hlog10, hx3.trans ((hx4.trans hx8).trans (hx9.trans hx10))⟩
end Go.Proofs.Ytneehlkofcdhoaa

/- Do both disks stand alike? They do (logs). -/
namespace Go.Proofs.Ytneehlkofcdhoaa
open Go
set_option linter.unusedSimpArgs false
open Go.RowKit (intOf)
theorem same03_spec {G G' : Gh} {κ κ' : Nat} {w : World} {p q : Nat} {D : Dsk} (h : DiskAt G κ w p D) (h' : RefAt G' κ' w q D) :
    Calls Try.prog 33 #[.pointer (some ⟨p, 0, none⟩), .pointer (some ⟨q, 0, none⟩)] w (Ret fun v w' => v = .bool true ∧ Grow w w') := by
  have hok := h.ok
  have hmost := hok.most
  have hwl := D.waiting_length
  have hwr := D.writes_length
  have hil := D.image_length
  have hsl := D.safe_length
  apply enter33
  apply R_in
  simp (maxSteps := 1000000) (disch := omega) only [F33, ↓sy1, sy2, sy3, readOK, sy5, sy6, Nat.reduceEqDiff, ↓reduceIte, sy7, sy8, sy9, sya, oneOf, syb, syc, Nat.reduceAdd, Nat.reduceMul, syd, sye, syf, syg, syh, reduceCtorEq]
  refine call0 (waiting_spec h) ?_
  rintro _ w1 ⟨a, b, rfl, ha, hb, _, hg1⟩
  simp (maxSteps := 1000000) (disch := omega) only [↓sy1, sy2, sy3, readOK, sy5, sy6, Nat.reduceEqDiff, ↓reduceIte, sy7, sy8, sy9, sya, oneOf, syb, syc, Nat.reduceAdd, Nat.reduceMul, syd, sye, syf, syg, syh, reduceCtorEq]
  refine call0 (rwaiting_spec (h'.grow hg1)) ?_
  rintro _ w2 ⟨x, y, rfl, hx, hy, hg2⟩
  simp (maxSteps := 1000000) (disch := omega) only [↓sy1, sy2, sy3, readOK, sy5, sy6, Nat.reduceEqDiff, ↓reduceIte, sy7, sy8, sy9, sya, oneOf, syb, syc, Nat.reduceAdd, Nat.reduceMul, syd, sye, syf, syg, syh, reduceCtorEq]
  refine call0 (sameInts_spec a x _ _ w2 ((Has.own ha).grow hg2) hx (by simp; omega)) ?_
  rintro _ w3 ⟨rfl, hg3⟩
  simp (maxSteps := 1000000) (disch := omega) only [↓sy1, sy2, sy3, readOK, sy5, sy6, Nat.reduceEqDiff, ↓reduceIte, sy7, sy8, sy9, sya, oneOf, syb, syc, Nat.reduceAdd, Nat.reduceMul, syd, sye, syf, syg, syh, reduceCtorEq, decide_true]
  refine call0 (sameInts_spec b y _ _ w3 ((Has.own hb).grow (hg2.trans hg3)) (hy.grow hg3) (by simp; omega)) ?_
  rintro _ w4 ⟨rfl, hg4⟩
  have hg14 := (hg2.trans hg3).trans hg4
  have hd4 := h.grow (hg1.trans hg14)
  have hr4 := h'.grow (hg1.trans hg14)
  simp (maxSteps := 1000000) (disch := omega) only [↓sy1, sy2, sy3, readOK, sy5, sy6, Nat.reduceEqDiff, ↓reduceIte, sy7, sy8, sy9, sya, oneOf, syb, syc, Nat.reduceAdd, Nat.reduceMul, syd, sye, syf, syg, syh, reduceCtorEq, decide_true]
  refine call0 (ops_spec hd4) ?_
  rintro _ w5 ⟨rfl, rfl⟩
  simp (maxSteps := 1000000) (disch := omega) only [↓sy1, sy2, sy3, readOK, sy5, sy6, Nat.reduceEqDiff, ↓reduceIte, sy7, sy8, sy9, sya, oneOf, syb, syc, Nat.reduceAdd, Nat.reduceMul, syd, sye, syf, syg, syh, reduceCtorEq]
  refine call0 (rops_spec hr4) ?_
  rintro _ w6 ⟨rfl, rfl⟩
  simp (maxSteps := 1000000) (disch := omega) only [↓sy1, sy2, sy3, readOK, sy5, sy6, Nat.reduceEqDiff, ↓reduceIte, sy7, sy8, sy9, sya, oneOf, syb, syc, Nat.reduceAdd, Nat.reduceMul, syd, sye, syf, syg, syh, reduceCtorEq, decide_true]
  refine call0 (image_spec hd4) ?_
  rintro i1 w9 ⟨hi1, hg9⟩
  simp (maxSteps := 1000000) (disch := omega) only [↓sy1, sy2, sy3, readOK, sy5, sy6, Nat.reduceEqDiff, ↓reduceIte, sy7, sy8, sy9, sya, oneOf, syb, syc, Nat.reduceAdd, Nat.reduceMul, syd, sye, syf, syg, syh, reduceCtorEq]
  refine call0 (rimage_spec (hr4.grow hg9)) ?_
  rintro i2 w10 ⟨hi2, hg10⟩
  simp (maxSteps := 1000000) (disch := omega) only [↓sy1, sy2, sy3, readOK, sy5, sy6, Nat.reduceEqDiff, ↓reduceIte, sy7, sy8, sy9, sya, oneOf, syb, syc, Nat.reduceAdd, Nat.reduceMul, syd, sye, syf, syg, syh, reduceCtorEq]
  refine call0 (sameAll_spec i1 i2 _ _ w10 ((hi1.grow hg10).has) hi2.has (by omega) (.of512 hok.image)) ?_
  rintro _ w11 ⟨rfl, hg11⟩
  have hg811 := (hg9.trans hg10).trans hg11
  simp (maxSteps := 1000000) (disch := omega) only [↓sy1, sy2, sy3, readOK, sy5, sy6, Nat.reduceEqDiff, ↓reduceIte, sy7, sy8, sy9, sya, oneOf, syb, syc, Nat.reduceAdd, Nat.reduceMul, syd, sye, syf, syg, syh, reduceCtorEq, decide_true]
  refine call0 (safe_spec (hd4.grow hg811)) ?_
  rintro s1 w12 ⟨hs1, hg12⟩
  simp (maxSteps := 1000000) (disch := omega) only [↓sy1, sy2, sy3, readOK, sy5, sy6, Nat.reduceEqDiff, ↓reduceIte, sy7, sy8, sy9, sya, oneOf, syb, syc, Nat.reduceAdd, Nat.reduceMul, syd, sye, syf, syg, syh, reduceCtorEq]
  refine call0 (rsafe_spec ((hr4.grow hg811).grow hg12)) ?_
  rintro s2 w13 ⟨hs2, hg13⟩
  simp (maxSteps := 1000000) (disch := omega) only [↓sy1, sy2, sy3, readOK, sy5, sy6, Nat.reduceEqDiff, ↓reduceIte, sy7, sy8, sy9, sya, oneOf, syb, syc, Nat.reduceAdd, Nat.reduceMul, syd, sye, syf, syg, syh, reduceCtorEq]
  refine call0 (sameAll_spec s1 s2 _ _ w13 ((hs1.grow hg13).has) hs2.has (by omega) (.of512 hok.safe)) ?_
  rintro _ w14 ⟨rfl, hg14'⟩
  simp (maxSteps := 1000000) (disch := omega) only [↓sy1, sy2, sy3, readOK, sy5, sy6, Nat.reduceEqDiff, ↓reduceIte, sy7, sy8, sy9, sya, oneOf, syb, syc, Nat.reduceAdd, Nat.reduceMul, syd, sye, syf, syg, syh, reduceCtorEq, decide_true]
  exact R_out (((((hg1.trans hg14).trans hg811).trans hg12).trans hg13).trans hg14')
theorem rcommit_nil {w : World} {v : Value} : Calls Try.prog 27 #[.pointer none, v] w (Ret fun v w' => v = .int .i64 1 ∧ w' = w) := by
  apply enter27
  apply R_in
  simp (maxSteps := 1000000) (disch := omega) only [↓sy1, sy2, sy3, readOK, sy5, sy6, Nat.reduceEqDiff, ↓reduceIte, sy7, sy8, sy9, sya, oneOf, syb, syc, Nat.reduceAdd, Nat.reduceMul, syd, sye, syf, syg, syh, reduceCtorEq, F27]
  exact R_out trivial
theorem rlread_nil {w : World} {n : Int} : Calls Try.prog 29 #[.pointer none, .int .i64 n] w (Ret fun v w' => v = .tuple #[.slice none 0 0, .int .i64 1] ∧ w' = w) := by
  apply enter29
  apply R_in
  simp (maxSteps := 1000000) (disch := omega) only [↓sy1, sy2, sy3, readOK, sy5, sy6, Nat.reduceEqDiff, ↓reduceIte, sy7, sy8, sy9, sya, oneOf, syb, syc, Nat.reduceAdd, Nat.reduceMul, syd, sye, syf, syg, syh, reduceCtorEq, F29]
  exact R_out trivial
theorem rpages_nil {w : World} : Calls Try.prog 28 #[.pointer none] w (Ret fun v w' => v = .int .i64 0 ∧ w' = w) := by
  apply enter28
  apply R_in
  simp (maxSteps := 1000000) (disch := omega) only [↓sy1, sy2, sy3, readOK, sy5, sy6, Nat.reduceEqDiff, ↓reduceIte, sy7, sy8, sy9, sya, oneOf, syb, syc, Nat.reduceAdd, Nat.reduceMul, syd, sye, syf, syg, syh, reduceCtorEq, F28]
  exact R_out trivial
theorem rcapacity_nil {w : World} : Calls Try.prog 31 #[.pointer none] w (Ret fun v w' => v = .int .i64 0 ∧ w' = w) := by
  apply enter31
  apply R_in
  simp (maxSteps := 1000000) (disch := omega) only [↓sy1, sy2, sy3, readOK, sy5, sy6, Nat.reduceEqDiff, ↓reduceIte, sy7, sy8, sy9, sya, oneOf, syb, syc, Nat.reduceAdd, Nat.reduceMul, syd, sye, syf, syg, syh, reduceCtorEq, F31]
  exact R_out trivial
theorem rcame_nil {w : World} : Calls Try.prog 32 #[.pointer none] w (Ret fun v w' => v = .int .i64 0 ∧ w' = w) := by
  apply enter32
  apply R_in
  simp (maxSteps := 1000000) (disch := omega) only [↓sy1, sy2, sy3, readOK, sy5, sy6, Nat.reduceEqDiff, ↓reduceIte, sy7, sy8, sy9, sya, oneOf, syb, syc, Nat.reduceAdd, Nat.reduceMul, syd, sye, syf, syg, syh, reduceCtorEq, F32]
  exact R_out trivial
end Go.Proofs.Ytneehlkofcdhoaa

/- WalPlays: the walk. -/
namespace Go.Proofs.Ytneehlkofcdhoaa
open Go
set_option linter.unusedSimpArgs false
open Go.RowKit (intOf)
/-- A number of sectors that is not too great. -/
def smallI (n : Int) : Int := if 30 < n ∧ n ≤ 4096 then n.tmod 30 + 1 else n
theorem smallI_ok {n : Int} (h : 1 ≤ smallI n ∧ smallI n ≤ 4096) : 1 ≤ smallI n ∧ smallI n ≤ 30 := by
  unfold smallI at h ⊢
  split at h
  · rename_i hn
    rw [if_pos hn]
    have h1 : n.tmod 30 = n % 30 := Int.tmod_eq_emod_of_nonneg (by omega)
    rw [h1]; omega
  · rename_i hn
    rw [if_neg hn]
    omega
theorem small_spec {w : World} {n : Int} (hn : -9223372036854775808 ≤ n ∧ n ≤ 9223372036854775807) : Calls Try.prog 26 #[.int .i64 n] w (Ret fun v w' => v = .int .i64 (smallI n) ∧ w' = w) := by
  apply enter26
  apply R_in
  by_cases h1 : 30 < n
  · by_cases h2 : n ≤ 4096
    · have h3 : n.tmod 30 = n % 30 := Int.tmod_eq_emod_of_nonneg (by omega)
      have h4 : smallI n = n % 30 + 1 := by unfold smallI; rw [if_pos ⟨h1, h2⟩, h3]
      simp (maxSteps := 1000000) (disch := omega) only [↓sy1, sy2, sy3, readOK, sy5, sy6, Nat.reduceEqDiff, ↓reduceIte, sy7, sy8, sy9, sya, oneOf, syb, syc, Nat.reduceAdd, Nat.reduceMul, syd, sye, syf, syg, syh, reduceCtorEq, F26, h1, h2, decide_true, h3]
      exact R_out (by rw [h4])
    · have h4 : smallI n = n := by unfold smallI; rw [if_neg (fun h => h2 h.2)]
      simp (maxSteps := 1000000) (disch := omega) only [↓sy1, sy2, sy3, readOK, sy5, sy6, Nat.reduceEqDiff, ↓reduceIte, sy7, sy8, sy9, sya, oneOf, syb, syc, Nat.reduceAdd, Nat.reduceMul, syd, sye, syf, syg, syh, reduceCtorEq, F26, h1, h2, decide_true, decide_false]
      exact R_out (by rw [h4])
  · have h4 : smallI n = n := by unfold smallI; rw [if_neg (fun h => h1 h.1)]
    simp (maxSteps := 1000000) (disch := omega) only [↓sy1, sy2, sy3, readOK, sy5, sy6, Nat.reduceEqDiff, ↓reduceIte, sy7, sy8, sy9, sya, oneOf, syb, syc, Nat.reduceAdd, Nat.reduceMul, syd, sye, syf, syg, syh, reduceCtorEq, F26, h1, decide_false]
    exact R_out (by rw [h4])
theorem DeedsAt.ats {w : World} {v : Value} {l : List Deed3} (h : DeedsAt w v l) {i : Nat} (hi : i < l.length) :
    ∃ a u, iaF 3 v (.int .i64 i) = some (.pointer (some a)) ∧ ∀ {w'}, Grow w w' → loadN w' a 0 3 = some [.bool l[i].short, u, .int .u8 (l[i].byte.toNat : Int)] ∧ Deed3.At w' (.agg #[.bool l[i].short, u, .int .u8 (l[i].byte.toNat : Int)]) l[i] := by
  obtain ⟨xs, h1, h2, h3⟩ := h
  obtain ⟨b, o, h5, h6, _⟩ := h1.idxk (i := i) (by omega)
  obtain ⟨u, h7, h8, h9, h10⟩ := h3 i hi
  obtain ⟨x, hx, hxc⟩ := h6 0 (by omega)
  obtain ⟨y, hy, hyc⟩ := h6 1 (by omega)
  obtain ⟨z, hz, hzc⟩ := h6 2 (by omega)
  rw [show i * 3 + 0 = 3 * i from by omega, h7] at hx
  rw [show i * 3 + 1 = 3 * i + 1 from by omega, h8] at hy
  rw [show i * 3 + 2 = 3 * i + 2 from by omega, h9] at hz
  cases hx; cases hy; cases hz
  exact ⟨_, u, h5, fun hg => ⟨loadN3 (hg.gcell hxc) (hg.gcell hyc) (hg.gcell hzc), u, rfl, h10.grow hg⟩⟩
abbrev K3 : Nat → Prop := fun c => c = 1 ∨ c = 2 ∨ c = 3
/-- Deeds, played with both logs. Inv: what holds ahead of a deed; Mid: what holds between both Commits. -/
structure Plays (l : List Deed3) (av bv : Value) (Inv Mid : Nat → Gh → World → Prop) (code : Nat → Int) : Prop where
  ext : ∀ {i G w G' w' K}, Inv i G w → Ext K G w G' w' → ¬ K 0 → ¬ K 1 → ¬ K 2 → Inv i G' w'
  mid : ∀ {i G w G' w' K}, Mid i G w → Ext K G w G' w' → ¬ K 0 → ¬ K 1 → ¬ K 2 → Mid i G' w'
  ca : ∀ {i G w pv xs} (h : i < l.length), i < 12 → Inv i G w → PagesH G 1 w pv l[i].pgs xs → Calls Try.prog 14 #[av, pv] w (Ret fun r w' => r = .int .i64 (code i) ∧ ∃ G', Mid i G' w' ∧ Ext (fun c => c = 1) G w G' w')
  cb : ∀ {i G w pv xs} (h : i < l.length), i < 12 → Mid i G w → PagesH G 2 w pv l[i].pgs xs → Calls Try.prog 27 #[bv, pv] w (Ret fun r w' => r = .int .i64 (code i) ∧ ∃ G', Inv (i + 1) G' w' ∧ Ext (fun c => c = 2) G w G' w')
set_option maxHeartbeats 4000000 in
theorem plays_loop {k : Kont} {e : Env} {w : World} {G : Gh} {w0 : World} {l : List Deed3} {lv av bv : Value} {Inv Mid : Nat → Gh → World → Prop} {code : Nat → Int} (hP : Plays l av bv Inv Mid code) (hv : DeedsAt w0 lv l)
    (e2 : e 2 = lv) (e7 : e 7 = av) (e8 : e 8 = bv) (e10 : e 10 = .int .i64 0) (h0 : Inv 0 G w) (hx : Ext K3 G00 w0 G w)
    (hend : ∀ e' w' G', e' 7 = av → e' 8 = bv → Inv (min l.length 12) G' w' → Ext K3 G00 w0 G' w' → k.x 0 e' w') : R (symS 143 Try.prog (.loop F8_L2) k e w) := by
  refine loop_rule (fun e w' => ∃ (i : Nat) (G' : Gh), i ≤ min l.length 12 ∧ e 10 = .int .i64 i ∧ e 2 = lv ∧ e 7 = av ∧ e 8 = bv ∧ Inv i G' w' ∧ Ext K3 G00 w0 G' w') (fun e _ => min l.length 12 - (intOf (e 10)).toNat)
    ⟨0, G, by omega, e10, e2, e7, e8, h0, hx⟩ ?_
  clear e2 e7 e8 e10 h0 hx
  rintro e w4 ⟨i, G4, hi, e10, e2, e7, e8, hI4, hx4⟩
  have hg4 := hx4.toGrow (by omega)
  have hv4 := hv.grow hg4
  by_cases hlt : i < min l.length 12
  · have hil : i < l.length := by omega
    obtain ⟨a, u, ha, hat⟩ := hv.ats hil
    simp (maxSteps := 1000000) (disch := omega) only [↓sy1, sy2, sy3, readOK, sy5, sy6, Nat.reduceEqDiff, ↓reduceIte, sy7, sy8, sy9, sya, oneOf, syb, syc, Nat.reduceAdd, Nat.reduceMul, syd, sye, syf, syg, syh, reduceCtorEq, F8_L2, e10, e2, e7, e8, hv4.len, Int.ofNat_lt, hil, show ((i : Int) < 12) from by omega, decide_true, ha, (hat hg4).1]
    refine call0 (dpages_spec (hat hg4).2) ?_
    rintro pv w5 ⟨hpv, hg5⟩
    have hx5 : Ext0 G4 w4 (G4.upto w4.heap.size (fun _ => 3) (fun _ => 0)) w5 := .upto hg5 _ _
    have ho5 : ∀ b, w4.heap.size ≤ b → (G4.upto w4.heap.size (fun _ => 3) (fun _ => 0)).own b = 3 ∧ (G4.upto w4.heap.size (fun _ => 3) (fun _ => 0)).fix b = 0 := fun b hb => by simp [Gh.upto, Nat.not_lt.2 hb]
    generalize G4.upto w4.heap.size (fun _ => 3) (fun _ => 0) = G5 at hx5 ho5
    have hI5 := hP.ext hI4 hx5 id id id
    obtain ⟨xs, hps⟩ := hpv.heldx
    have hL5 := hpv.lens
    simp (maxSteps := 1000000) (disch := omega) only [↓sy1, sy2, sy3, readOK, sy5, sy6, Nat.reduceEqDiff, ↓reduceIte, sy7, sy8, sy9, sya, oneOf, syb, syc, Nat.reduceAdd, Nat.reduceMul, syd, sye, syf, syg, syh, reduceCtorEq, e10, e2, e7, e8]
    refine draw8_0 (fun _ => False) ?_
    have hgd : Grow w5 w5.drew := (Keep.refl _ _).drew
    generalize w5.drew = w6 at hgd ⊢
    have hx6 : Ext0 G5 w5 G5 w6 := .grow hgd
    have hI6 := hP.ext hI5 hx6 id id id
    have hps6 : PagesH G5 1 w6 pv l[i].pgs xs := (hps (fun b hb => by rw [(ho5 b hb).1]; omega)).grow hgd
    have hL6 := hL5.keep hgd (fun _ _ _ => id)
    have hg06 := (hg4.trans hg5).trans hgd
    have hll := l[i].pgs_length
    simp (maxSteps := 1000000) (disch := omega) only [↓sy1, sy2, sy3, readOK, sy5, sy6, Nat.reduceEqDiff, ↓reduceIte, sy7, sy8, sy9, sya, oneOf, syb, syc, Nat.reduceAdd, Nat.reduceMul, syd, sye, syf, syg, syh, reduceCtorEq, PL8_0, e10, e2, e7, e8, ha, (hat hg06).1]
    refine ⟨?_, ?_⟩
    all_goals
      refine call0 (hP.ca hil (by omega) hI6 hps6) ?_
      rintro _ w7 ⟨rfl, G7, hM7, hx7⟩
      have hx47 : Ext K3 G4 w4 G7 w7 := ((hx5.trans hx6).mono (fun _ h => h.elim)).trans (hx7.mono (by omega))
      have hx07 := hx4.trans hx47
      have hg07 := hx07.toGrow (by omega)
      have hsz : w4.heap.size ≤ w7.heap.size := hx47.size
      simp (maxSteps := 1000000) (disch := omega) only [↓sy1, sy2, sy3, readOK, sy5, sy6, Nat.reduceEqDiff, ↓reduceIte, sy7, sy8, sy9, sya, oneOf, syb, syc, Nat.reduceAdd, Nat.reduceMul, syd, sye, syf, syg, syh, reduceCtorEq, e10, e2, e7, e8, (hat hg07).1]
      refine call0 (dpages_spec (hat hg07).2) ?_
      rintro pw w8 ⟨hpw, hg8⟩
      have hx8 : Ext0 G7 w7 (G7.new w7.heap.size) w8 := .newB hg8
      obtain ⟨ys, hqs⟩ := hpw.held (G := G7.new w7.heap.size) (κ := 2) (fun b hb => by rw [Gh.new_own hb]; omega)
      simp (maxSteps := 1000000) (disch := omega) only [↓sy1, sy2, sy3, readOK, sy5, sy6, Nat.reduceEqDiff, ↓reduceIte, sy7, sy8, sy9, sya, oneOf, syb, syc, Nat.reduceAdd, Nat.reduceMul, syd, sye, syf, syg, syh, reduceCtorEq, e10, e2, e7, e8]
      refine call0 (hP.cb hil (by omega) (hP.mid hM7 hx8 id id id) hqs) ?_
      rintro _ w9 ⟨rfl, G9, hI9, hx9⟩
      have hx69 : Ext (fun c => c = 1 ∨ c = 2) G5 w6 G9 w9 := ((hx7.mono (by omega)).trans (hx8.mono (fun _ h => h.elim))).trans (hx9.mono (by omega))
      have hx09 : Ext K3 G00 w0 G9 w9 := (hx4.trans ((hx5.trans hx6).mono (fun _ h => h.elim))).trans (hx69.mono (by omega))
      have hL9 := hL6.keep hx69.keep (fun b hb _ => by rw [(ho5 b hb).1]; omega)
      have hmark : ∀ b, w4.heap.size ≤ b ∧ b < w5.heap.size → G9.own b = 3 ∧ G9.fix b = 0 := fun b hb => by
        have hb3 : b < w6.heap.size := Nat.lt_of_lt_of_le hb.2 hgd.size
        rw [hx69.own b hb3, hx69.fixe b hb3 (by rw [(ho5 b hb.1).1]; omega)]
        exact ho5 b hb.1
      simp (maxSteps := 1000000) (disch := omega) only [↓sy1, sy2, sy3, readOK, sy5, sy6, Nat.reduceEqDiff, ↓reduceIte, sy7, sy8, sy9, sya, oneOf, syb, syc, Nat.reduceAdd, Nat.reduceMul, syd, sye, syf, syg, syh, reduceCtorEq, e10, e2, e7, e8, decide_true, Bool.not_true]
      refine over_spec (pv := pv) (by simp [upd, updO]) (by simp [upd, updO]) hL9 (by rw [List.length_map]; omega) (fun m hm => ?_) (fun e' w' q2 q7 q8 q10 hk' => ?_)
      · obtain ⟨p, hp, rfl⟩ := List.mem_map.1 hm
        simp only [Deed3.pgs, List.mem_map] at hp
        obtain ⟨j, _, rfl⟩ := hp
        simp only [Deed3.page, List.length_replicate]
        split <;> omega
      have hx10 : Ext (fun c => c = 3) G9 w9 G9 w' := .onS hk' hmark
      have hI10 := hP.ext hI9 hx10 (by omega) (by omega) (by omega)
      have q2' : e' 2 = lv := by rw [q2]; simp [upd, updO, e2]
      have q7' : e' 7 = av := by rw [q7]; simp [upd, updO, e7]
      have q8' : e' 8 = bv := by rw [q8]; simp [upd, updO, e8]
      have q10' : e' 10 = .int .i64 i := by rw [q10]; simp [upd, updO, e10]
      apply R_in
      simp (maxSteps := 1000000) (disch := omega) only [↓sy1, sy2, sy3, readOK, sy5, sy6, Nat.reduceEqDiff, ↓reduceIte, sy7, sy8, sy9, sya, oneOf, syb, syc, Nat.reduceAdd, Nat.reduceMul, syd, sye, syf, syg, syh, reduceCtorEq, q2', q7', q8', q10']
      have hx010 := hx09.trans (hx10.mono (by omega))
      refine R_out ⟨⟨i + 1, G9, by omega, rfl, hI10, hx010⟩, ?_⟩
      simp only [intOf]; omega
  · have hie : i = min l.length 12 := by omega
    subst hie
    by_cases h1 : min l.length 12 < l.length
    all_goals first
      | (simp (maxSteps := 1000000) (disch := omega) only [↓sy1, sy2, sy3, readOK, sy5, sy6, Nat.reduceEqDiff, ↓reduceIte, sy7, sy8, sy9, sya, oneOf, syb, syc, Nat.reduceAdd, Nat.reduceMul, syd, sye, syf, syg, syh, reduceCtorEq, F8_L2, e10, e2, e7, e8, hv4.len, Int.ofNat_lt, h1, show ¬ (((min l.length 12 : Nat) : Int) < 12) from by omega, decide_true, decide_false])
      | (simp (maxSteps := 1000000) (disch := omega) only [↓sy1, sy2, sy3, readOK, sy5, sy6, Nat.reduceEqDiff, ↓reduceIte, sy7, sy8, sy9, sya, oneOf, syb, syc, Nat.reduceAdd, Nat.reduceMul, syd, sye, syf, syg, syh, reduceCtorEq, F8_L2, e10, e2, e7, e8, hv4.len, Int.ofNat_lt, h1, decide_true, decide_false])
    all_goals exact R_out (hend _ _ G4 (by simp [upd, updO, e7]) (by simp [upd, updO, e8]) hI4 hx4)
end Go.Proofs.Ytneehlkofcdhoaa

/- WalPlays: the walk, put together. -/
namespace Go.Proofs.Ytneehlkofcdhoaa
open Go
set_option linter.unusedSimpArgs false
open Go.RowKit (intOf)
/-- What both logs tell of a page. -/
structure Reads (av bv : Value) (J : World → Prop) (pgs : Nat) : Prop where
  grow : ∀ {w w'}, J w → Grow w w' → J w'
  pages : ∀ {w}, J w → Calls Try.prog 28 #[bv] w (Ret fun v w' => v = .int .i64 (pgs : Int) ∧ Grow w w')
  read : ∀ n : Int, -1 ≤ n → n ≤ pgs → ∃ (b : List UInt8) (ec : Int), b.length ≤ 512 ∧ (∀ {w}, J w → Calls Try.prog 15 #[av, .int .i64 n] w (Ret fun v w' => ∃ x, v = .tuple #[x, .int .i64 ec] ∧ HasB w' x b ∧ Grow w w')) ∧
    ∀ {w}, J w → Calls Try.prog 29 #[bv, .int .i64 n] w (Ret fun v w' => ∃ x, v = .tuple #[x, .int .i64 ec] ∧ HasB w' x b ∧ Grow w w')
set_option maxHeartbeats 2000000 in
theorem reads_loop {k : Kont} {e : Env} {w : World} {av bv : Value} {J : World → Prop} {pgs : Nat} (hR : Reads av bv J pgs) (hp : pgs ≤ 4096) (e7 : e 7 = av) (e8 : e 8 = bv) (e14 : e 14 = .int .i64 (-1)) (hJ : J w)
    (hend : ∀ e' w', e' 7 = av → e' 8 = bv → J w' → Grow w w' → k.x 6 e' w') : R (symS 143 Try.prog (.loop F8_L3) k e w) := by
  refine loop_rule (fun e w' => ∃ n : Int, -1 ≤ n ∧ n ≤ 40 ∧ e 14 = .int .i64 n ∧ e 7 = av ∧ e 8 = bv ∧ J w' ∧ Grow w w') (fun e _ => (40 - intOf (e 14)).toNat)
    ⟨-1, by omega, by omega, e14, e7, e8, hJ, Keep.refl _ _⟩ ?_
  clear e7 e8 e14 hJ
  rintro e w1 ⟨n, hn1, hn2, e14, e7, e8, hJ, hg1⟩
  simp (maxSteps := 1000000) (disch := omega) only [↓sy1, sy2, sy3, readOK, sy5, sy6, Nat.reduceEqDiff, ↓reduceIte, sy7, sy8, sy9, sya, oneOf, syb, syc, Nat.reduceAdd, Nat.reduceMul, syd, sye, syf, syg, syh, reduceCtorEq, F8_L3, e14, e7, e8]
  refine call0 (hR.pages hJ) ?_
  rintro _ w2 ⟨rfl, hg2⟩
  have hJ2 := hR.grow hJ hg2
  by_cases h1 : n ≤ pgs
  · by_cases h2 : n < 40
    · obtain ⟨b, ec, hb, hra, hrb⟩ := hR.read n hn1 h1
      simp (maxSteps := 1000000) (disch := omega) only [↓sy1, sy2, sy3, readOK, sy5, sy6, Nat.reduceEqDiff, ↓reduceIte, sy7, sy8, sy9, sya, oneOf, syb, syc, Nat.reduceAdd, Nat.reduceMul, syd, sye, syf, syg, syh, reduceCtorEq, e14, e7, e8, h1, h2, decide_true]
      refine call0 (hra hJ2) ?_
      rintro _ w3 ⟨x, rfl, hx, hg3⟩
      simp (maxSteps := 1000000) (disch := omega) only [↓sy1, sy2, sy3, readOK, sy5, sy6, Nat.reduceEqDiff, ↓reduceIte, sy7, sy8, sy9, sya, oneOf, syb, syc, Nat.reduceAdd, Nat.reduceMul, syd, sye, syf, syg, syh, reduceCtorEq, e14, e7, e8]
      refine call0 (hrb (hR.grow hJ2 hg3)) ?_
      rintro _ w4 ⟨y, rfl, hy, hg4⟩
      simp (maxSteps := 1000000) (disch := omega) only [↓sy1, sy2, sy3, readOK, sy5, sy6, Nat.reduceEqDiff, ↓reduceIte, sy7, sy8, sy9, sya, oneOf, syb, syc, Nat.reduceAdd, Nat.reduceMul, syd, sye, syf, syg, syh, reduceCtorEq, e14, e7, e8, decide_true, Bool.not_true]
      refine call0 (sameBytes_spec x y b b w4 (hx.grow hg4) hy (by omega)) ?_
      rintro _ w5 ⟨rfl, hg5⟩
      have hg25 := (hg2.trans hg3).trans (hg4.trans hg5)
      simp (maxSteps := 1000000) (disch := omega) only [↓sy1, sy2, sy3, readOK, sy5, sy6, Nat.reduceEqDiff, ↓reduceIte, sy7, sy8, sy9, sya, oneOf, syb, syc, Nat.reduceAdd, Nat.reduceMul, syd, sye, syf, syg, syh, reduceCtorEq, e14, e7, e8, decide_true, Bool.not_true]
      refine R_out ⟨⟨n + 1, by omega, by omega, rfl, hR.grow hJ hg25, hg1.trans hg25⟩, ?_⟩
      simp only [intOf]; omega
    · simp (maxSteps := 1000000) (disch := omega) only [↓sy1, sy2, sy3, readOK, sy5, sy6, Nat.reduceEqDiff, ↓reduceIte, sy7, sy8, sy9, sya, oneOf, syb, syc, Nat.reduceAdd, Nat.reduceMul, syd, sye, syf, syg, syh, reduceCtorEq, e14, e7, e8, h1, h2, decide_true, decide_false]
      exact R_out (hend _ _ (by simp [upd, updO, e7]) (by simp [upd, updO, e8]) hJ2 (hg1.trans hg2))
  · simp (maxSteps := 1000000) (disch := omega) only [↓sy1, sy2, sy3, readOK, sy5, sy6, Nat.reduceEqDiff, ↓reduceIte, sy7, sy8, sy9, sya, oneOf, syb, syc, Nat.reduceAdd, Nat.reduceMul, syd, sye, syf, syg, syh, reduceCtorEq, e14, e7, e8, h1, decide_false]
    exact R_out (hend _ _ (by simp [upd, updO, e7]) (by simp [upd, updO, e8]) hJ2 (hg1.trans hg2))
theorem nil_plays (l : List Deed3) : Plays l (.pointer none) (.pointer none) (fun _ _ _ => True) (fun _ _ _ => True) (fun _ => 1) :=
  ⟨fun _ _ _ _ _ => trivial, fun _ _ _ _ _ => trivial, fun _ _ _ _ => Ret.mono commit_nil fun v w' ⟨hv, hg⟩ => ⟨hv, _, trivial, .grow hg⟩, fun _ _ _ _ => Ret.mono rcommit_nil fun v w' ⟨hv, hg⟩ => ⟨hv, _, trivial, .grow (by rw [hg]; exact Keep.refl _ _)⟩⟩
theorem nil_reads : Reads (.pointer none) (.pointer none) (fun _ => True) 0 :=
  ⟨fun _ _ => trivial, fun _ => Ret.mono rpages_nil fun v w' ⟨hv, hw⟩ => ⟨hv, by rw [hw]; exact Keep.refl _ _⟩, fun n _ _ => ⟨[], 1, by simp, fun _ => Ret.mono lread_nil fun v w' ⟨hv, hw⟩ => ⟨_, hv, Has.nil 1 _, by rw [hw]; exact Keep.refl _ _⟩, fun _ => Ret.mono rlread_nil fun v w' ⟨hv, hw⟩ => ⟨_, hv, Has.nil 1 _, by rw [hw]; exact Keep.refl _ _⟩⟩⟩
/-- Both logs stand alike. -/
def BothAt (m s q r : Nat) (D : Dsk) (G : Gh) (w : World) : Prop := LogAt G 1 w q s 0 D ∧ RLogAt G 2 w r s 0 D ∧ D.first.length = m
theorem both_plays {m s q r : Nat} (l : List Deed3) : Plays l (.pointer (some ⟨q, 0, none⟩)) (.pointer (some ⟨r, 0, none⟩)) (fun i G w => BothAt m s q r (commits s (Dsk.zero m) (l.take i)) G w)
    (fun i G w => LogAt G 1 w q s 0 (commits s (Dsk.zero m) (l.take (i + 1))) ∧ RLogAt G 2 w r s 0 (commits s (Dsk.zero m) (l.take i)) ∧ (commits s (Dsk.zero m) (l.take i)).first.length = m) (fun i => if h : i < l.length then ccode m s l[i].pgs else 0) := by
  refine ⟨fun {i G w G' w' K} h hx h0 h1 h2 => ⟨h.1.ext hx h1 h0, h.2.1.ext hx h2 h0, h.2.2⟩, fun {i G w G' w' K} h hx h0 h1 h2 => ⟨h.1.ext hx h1 h0, h.2.1.ext hx h2 h0, h.2.2⟩, fun {i G w pv xs} h hi hI hp => ?_, fun {i G w pv xs} h hi hI hp => ?_⟩
  · have hops := commits_below (D := Dsk.zero m) (size := s) (l := l) (i := i) (k := 12) (by omega) rfl
    rw [dif_pos h, commits_take h]
    refine Ret.mono (commit_spec hI.1 hp (pgs_most _) (by omega)) fun v w' ⟨hv, G', hl, hx⟩ => ⟨by rw [hv, hI.2.2], G', ⟨hl, hI.2.1.ext hx (by omega) (by omega), hI.2.2⟩, hx⟩
  · have hops := commits_below (D := Dsk.zero m) (size := s) (l := l) (i := i) (k := 12) (by omega) rfl
    rw [dif_pos h]
    refine Ret.mono (rcommit_spec hI.2.1 hp (pgs_most _) (by omega)) fun v w' ⟨hv, G', hl, hx⟩ => ⟨by rw [hv, hI.2.2], G', ⟨hI.1.ext hx (by omega) (by omega), by rw [commits_take h]; exact hl, by rw [commits_take h, cdone_first]; exact hI.2.2⟩, hx⟩
theorem both_reads {m s q r : Nat} {D : Dsk} {G : Gh} (hs : s + 2 ≤ m) (hm : D.first.length = m) : Reads (.pointer (some ⟨q, 0, none⟩)) (.pointer (some ⟨r, 0, none⟩)) (fun w => BothAt m s q r D G w) (m - s - 1) := by
  refine ⟨fun h hg => ⟨h.1.grow hg, h.2.1.grow hg, h.2.2⟩, fun {w} h => Ret.mono (rpages_spec h.2.1) fun v w' ⟨hv, hg⟩ => ⟨by rw [hv, hm], hg⟩, fun n h1 h2 => ?_⟩
  by_cases hb : n < 0 ∨ ((D.first.length - s - 1 : Nat) : Int) ≤ n
  · exact ⟨[], 2, by simp, fun h => Ret.mono (lread_bad h.1 hb) fun v w' ⟨hv, hg⟩ => ⟨_, hv, Has.nil 1 _, hg⟩, fun h => Ret.mono (rlread_bad h.2.1 hb) fun v w' ⟨hv, hg⟩ => ⟨_, hv, Has.nil 1 _, hg⟩⟩
  · obtain ⟨j, rfl⟩ : ∃ j : Nat, n = j := ⟨n.toNat, by omega⟩
    have hj : j < D.first.length - s - 1 := by omega
    have hlen : s + 1 + j < D.image.length := by rw [D.image_length]; omega
    by_cases h5 : (D.image[s + 1 + j]).length ≤ 512
    · exact ⟨D.image[s + 1 + j], 0, h5, fun h => Ret.mono (lread_spec h.1 hj) fun v w' ⟨u, hv, hu, hg⟩ => ⟨u, hv, Has.own hu, hg⟩, fun h => Ret.mono (rlread_spec h.2.1 hj) fun v w' hh => hh⟩
    · refine ⟨[], 0, by simp, fun h => ?_, fun h => ?_⟩ <;> exact absurd (Nat.le_of_eq (h.1.cells.choose_spec.1.ok.image _ (List.getElem_mem hlen))) h5
set_option maxHeartbeats 4000000 in
theorem walPlays_walk {w : World} {n a : Int} {lv : Value} {l : List Deed3} (hn : -9223372036854775808 ≤ n ∧ n ≤ 9223372036854775807) (ha : -9223372036854775808 ≤ a ∧ a ≤ 9223372036854775807) (hv : DeedsAt w lv l) :
    Calls Try.prog 8 #[.int .i64 n, .int .i64 a, lv] w (Ret fun v w' => v = .bool true ∧ Grow w w') := by
  apply enter8
  apply R_in
  simp (maxSteps := 1000000) (disch := omega) only [↓sy1, sy2, sy3, readOK, sy5, sy6, Nat.reduceEqDiff, ↓reduceIte, sy7, sy8, sy9, sya, oneOf, syb, syc, Nat.reduceAdd, Nat.reduceMul, syd, sye, syf, syg, syh, reduceCtorEq, F8]
  refine call0 (small_spec hn) ?_
  rintro _ w0 ⟨rfl, rfl⟩
  simp (maxSteps := 1000000) (disch := omega) only [↓sy1, sy2, sy3, readOK, sy5, sy6, Nat.reduceEqDiff, ↓reduceIte, sy7, sy8, sy9, sya, oneOf, syb, syc, Nat.reduceAdd, Nat.reduceMul, syd, sye, syf, syg, syh, reduceCtorEq]
  by_cases hok : (1 ≤ smallI n ∧ smallI n ≤ 4096) ∧ (1 ≤ a ∧ a ≤ smallI n - 2)
  · have h30 := smallI_ok hok.1
    obtain ⟨m, hm⟩ : ∃ m : Nat, smallI n = m := ⟨(smallI n).toNat, by omega⟩
    obtain ⟨s, rfl⟩ : ∃ s : Nat, a = s := ⟨a.toNat, by omega⟩
    rw [hm] at hok h30 ⊢
    refine call0 (lopen_spec (G := G00) (n := m) (size := s) 1 2 (by omega) (by omega) (by omega) (by omega) (by omega)) ?_
    rintro _ w1 ⟨q, r, G1, rfl, hq1, hl1, hm1, hx1⟩
    simp (maxSteps := 1000000) (disch := omega) only [↓sy1, sy2, sy3, readOK, sy5, sy6, Nat.reduceEqDiff, ↓reduceIte, sy7, sy8, sy9, sya, oneOf, syb, syc, Nat.reduceAdd, Nat.reduceMul, syd, sye, syf, syg, syh, reduceCtorEq]
    refine call0 (live3_spec _) ?_
    rintro _ w2 ⟨rfl, hg2⟩
    have hx2 : Ext K3 G00 w0 G1 w2 := (hx1.mono (fun _ h => h.elim)).trans (.grow hg2)
    simp (maxSteps := 1000000) (disch := omega) only [↓sy1, sy2, sy3, readOK, sy5, sy6, Nat.reduceEqDiff, ↓reduceIte, sy7, sy8, sy9, sya, oneOf, syb, syc, Nat.reduceAdd, Nat.reduceMul, syd, sye, syf, syg, syh, reduceCtorEq, Bool.not_true]
    refine plays_loop (both_plays (m := m) (s := s) (q := q) (r := r) l) hv (by simp [upd, updO, ev]) (by simp [upd, updO, ev]) (by simp [upd, updO, ev]) (by simp [upd, updO, ev]) ⟨hl1.grow hg2, hm1.grow hg2, by rw [List.take_zero]; exact zero_len m⟩ hx2 (fun e w3 G3 e7 e8 hI3 hx3 => ?_)
    apply R_in
    simp (maxSteps := 1000000) (disch := omega) only [↓sy1, sy2, sy3, readOK, sy5, sy6, Nat.reduceEqDiff, ↓reduceIte, sy7, sy8, sy9, sya, oneOf, syb, syc, Nat.reduceAdd, Nat.reduceMul, syd, sye, syf, syg, syh, reduceCtorEq, e7, e8]
    have hf3 := hI3.2.2
    generalize commits s (Dsk.zero m) (l.take (min l.length 12)) = D at hI3 hf3
    refine reads_loop (both_reads (D := D) (G := G3) (by omega) hf3) (by omega) (by simp [upd, updO, ev, e7]) (by simp [upd, updO, ev, e8]) (by simp [upd, updO, ev]) hI3 (fun e' w4 e7' e8' hJ4 hg4 => ?_)
    apply R_in
    obtain ⟨hl4, hm4, _⟩ := hJ4
    have hg04 := (hx3.toGrow (by omega)).trans hg4
    simp (maxSteps := 1000000) (disch := omega) only [↓sy1, sy2, sy3, readOK, sy5, sy6, Nat.reduceEqDiff, ↓reduceIte, sy7, sy8, sy9, sya, oneOf, syb, syc, Nat.reduceAdd, Nat.reduceMul, syd, sye, syf, syg, syh, reduceCtorEq, e7', e8']
    refine call0 (pages_spec hl4) ?_
    rintro _ w5 ⟨rfl, hg5⟩
    simp (maxSteps := 1000000) (disch := omega) only [↓sy1, sy2, sy3, readOK, sy5, sy6, Nat.reduceEqDiff, ↓reduceIte, sy7, sy8, sy9, sya, oneOf, syb, syc, Nat.reduceAdd, Nat.reduceMul, syd, sye, syf, syg, syh, reduceCtorEq, e7', e8']
    refine call0 (rpages_spec (hm4.grow hg5)) ?_
    rintro _ w6 ⟨rfl, hg6⟩
    have hl6 := (hl4.grow hg5).grow hg6
    have hm6 := (hm4.grow hg5).grow hg6
    simp (maxSteps := 1000000) (disch := omega) only [↓sy1, sy2, sy3, readOK, sy5, sy6, Nat.reduceEqDiff, ↓reduceIte, sy7, sy8, sy9, sya, oneOf, syb, syc, Nat.reduceAdd, Nat.reduceMul, syd, sye, syf, syg, syh, reduceCtorEq, e7', e8', decide_true]
    refine call0 (capacity_spec hl6) ?_
    rintro _ w7 ⟨rfl, rfl⟩
    simp (maxSteps := 1000000) (disch := omega) only [↓sy1, sy2, sy3, readOK, sy5, sy6, Nat.reduceEqDiff, ↓reduceIte, sy7, sy8, sy9, sya, oneOf, syb, syc, Nat.reduceAdd, Nat.reduceMul, syd, sye, syf, syg, syh, reduceCtorEq, e7', e8']
    refine call0 (rcapacity_spec hm6) ?_
    rintro _ w7 ⟨rfl, rfl⟩
    simp (maxSteps := 1000000) (disch := omega) only [↓sy1, sy2, sy3, readOK, sy5, sy6, Nat.reduceEqDiff, ↓reduceIte, sy7, sy8, sy9, sya, oneOf, syb, syc, Nat.reduceAdd, Nat.reduceMul, syd, sye, syf, syg, syh, reduceCtorEq, e7', e8', decide_true]
    refine call0 (came_spec hl6) ?_
    rintro _ w7 ⟨rfl, rfl⟩
    simp (maxSteps := 1000000) (disch := omega) only [↓sy1, sy2, sy3, readOK, sy5, sy6, Nat.reduceEqDiff, ↓reduceIte, sy7, sy8, sy9, sya, oneOf, syb, syc, Nat.reduceAdd, Nat.reduceMul, syd, sye, syf, syg, syh, reduceCtorEq, e7', e8']
    refine call0 (rcame_spec hm6) ?_
    rintro _ w7 ⟨rfl, rfl⟩
    simp (maxSteps := 1000000) (disch := omega) only [↓sy1, sy2, sy3, readOK, sy5, sy6, Nat.reduceEqDiff, ↓reduceIte, sy7, sy8, sy9, sya, oneOf, syb, syc, Nat.reduceAdd, Nat.reduceMul, syd, sye, syf, syg, syh, reduceCtorEq, e7', e8', decide_true]
    refine call0 (ldisk_spec 4 hl6) ?_
    rintro _ w8 ⟨p8, G8, rfl, _, hd8, hx8⟩
    simp (maxSteps := 1000000) (disch := omega) only [↓sy1, sy2, sy3, readOK, sy5, sy6, Nat.reduceEqDiff, ↓reduceIte, sy7, sy8, sy9, sya, oneOf, syb, syc, Nat.reduceAdd, Nat.reduceMul, syd, sye, syf, syg, syh, reduceCtorEq, e7', e8']
    refine call0 (rldisk_spec 5 (hm6.ext hx8 id id)) ?_
    rintro _ w9 ⟨p9, G9, rfl, _, hd9, hx9⟩
    simp (maxSteps := 1000000) (disch := omega) only [↓sy1, sy2, sy3, readOK, sy5, sy6, Nat.reduceEqDiff, ↓reduceIte, sy7, sy8, sy9, sya, oneOf, syb, syc, Nat.reduceAdd, Nat.reduceMul, syd, sye, syf, syg, syh, reduceCtorEq]
    refine call0 (same03_spec (hd8.ext hx9 id) hd9) ?_
    rintro _ w10 ⟨rfl, hg10⟩
    simp (maxSteps := 1000000) (disch := omega) only [↓sy1, sy2, sy3, readOK, sy5, sy6, Nat.reduceEqDiff, ↓reduceIte, sy7, sy8, sy9, sya, oneOf, syb, syc, Nat.reduceAdd, Nat.reduceMul, syd, sye, syf, syg, syh, reduceCtorEq]
    exact R_out ((((hg04.trans hg5).trans hg6).trans hx8.growG).trans (hx9.growG.trans hg10))
  · refine call0 (lopen_none hok) ?_
    rintro _ w1 ⟨rfl, hg1⟩
    simp (maxSteps := 1000000) (disch := omega) only [↓sy1, sy2, sy3, readOK, sy5, sy6, Nat.reduceEqDiff, ↓reduceIte, sy7, sy8, sy9, sya, oneOf, syb, syc, Nat.reduceAdd, Nat.reduceMul, syd, sye, syf, syg, syh, reduceCtorEq]
    refine call0 (live3_spec _) ?_
    rintro _ w2 ⟨rfl, hg2⟩
    have hx2 : Ext K3 G00 w0 G00 w2 := .grow (hg1.trans hg2)
    simp (maxSteps := 1000000) (disch := omega) only [↓sy1, sy2, sy3, readOK, sy5, sy6, Nat.reduceEqDiff, ↓reduceIte, sy7, sy8, sy9, sya, oneOf, syb, syc, Nat.reduceAdd, Nat.reduceMul, syd, sye, syf, syg, syh, reduceCtorEq, Bool.not_true]
    refine plays_loop (nil_plays l) hv (by simp [upd, updO, ev]) (by simp [upd, updO, ev]) (by simp [upd, updO, ev]) (by simp [upd, updO, ev]) trivial hx2 (fun e w3 G3 e7 e8 _ hx3 => ?_)
    apply R_in
    simp (maxSteps := 1000000) (disch := omega) only [↓sy1, sy2, sy3, readOK, sy5, sy6, Nat.reduceEqDiff, ↓reduceIte, sy7, sy8, sy9, sya, oneOf, syb, syc, Nat.reduceAdd, Nat.reduceMul, syd, sye, syf, syg, syh, reduceCtorEq, e7, e8]
    refine reads_loop nil_reads (by omega) (by simp [upd, updO, ev, e7]) (by simp [upd, updO, ev, e8]) (by simp [upd, updO, ev]) trivial (fun e' w4 e7' e8' _ hg4 => ?_)
    apply R_in
    have hg04 := (hx3.toGrow (by omega)).trans hg4
    simp (maxSteps := 1000000) (disch := omega) only [↓sy1, sy2, sy3, readOK, sy5, sy6, Nat.reduceEqDiff, ↓reduceIte, sy7, sy8, sy9, sya, oneOf, syb, syc, Nat.reduceAdd, Nat.reduceMul, syd, sye, syf, syg, syh, reduceCtorEq, e7', e8']
    refine call0 pages_nil ?_
    rintro _ w5 ⟨rfl, rfl⟩
    simp (maxSteps := 1000000) (disch := omega) only [↓sy1, sy2, sy3, readOK, sy5, sy6, Nat.reduceEqDiff, ↓reduceIte, sy7, sy8, sy9, sya, oneOf, syb, syc, Nat.reduceAdd, Nat.reduceMul, syd, sye, syf, syg, syh, reduceCtorEq, e7', e8']
    refine call0 rpages_nil ?_
    rintro _ w5 ⟨rfl, rfl⟩
    simp (maxSteps := 1000000) (disch := omega) only [↓sy1, sy2, sy3, readOK, sy5, sy6, Nat.reduceEqDiff, ↓reduceIte, sy7, sy8, sy9, sya, oneOf, syb, syc, Nat.reduceAdd, Nat.reduceMul, syd, sye, syf, syg, syh, reduceCtorEq, e7', e8', decide_true]
    refine call0 capacity_nil ?_
    rintro _ w5 ⟨rfl, rfl⟩
    simp (maxSteps := 1000000) (disch := omega) only [↓sy1, sy2, sy3, readOK, sy5, sy6, Nat.reduceEqDiff, ↓reduceIte, sy7, sy8, sy9, sya, oneOf, syb, syc, Nat.reduceAdd, Nat.reduceMul, syd, sye, syf, syg, syh, reduceCtorEq, e7', e8']
    refine call0 rcapacity_nil ?_
    rintro _ w5 ⟨rfl, rfl⟩
    simp (maxSteps := 1000000) (disch := omega) only [↓sy1, sy2, sy3, readOK, sy5, sy6, Nat.reduceEqDiff, ↓reduceIte, sy7, sy8, sy9, sya, oneOf, syb, syc, Nat.reduceAdd, Nat.reduceMul, syd, sye, syf, syg, syh, reduceCtorEq, e7', e8', decide_true]
    refine call0 came_nil ?_
    rintro _ w5 ⟨rfl, rfl⟩
    simp (maxSteps := 1000000) (disch := omega) only [↓sy1, sy2, sy3, readOK, sy5, sy6, Nat.reduceEqDiff, ↓reduceIte, sy7, sy8, sy9, sya, oneOf, syb, syc, Nat.reduceAdd, Nat.reduceMul, syd, sye, syf, syg, syh, reduceCtorEq, e7', e8']
    refine call0 rcame_nil ?_
    rintro _ w5 ⟨rfl, rfl⟩
    simp (maxSteps := 1000000) (disch := omega) only [↓sy1, sy2, sy3, readOK, sy5, sy6, Nat.reduceEqDiff, ↓reduceIte, sy7, sy8, sy9, sya, oneOf, syb, syc, Nat.reduceAdd, Nat.reduceMul, syd, sye, syf, syg, syh, reduceCtorEq, e7', e8', decide_true]
    exact R_out hg04
end Go.Proofs.Ytneehlkofcdhoaa

/- Arguments opened: rows of numbers, of bytes. What is only read reads as it did. -/
namespace Go.Proofs.Ytneehlkofcdhoaa
open Go
set_option linter.unusedSimpArgs false
open Go.RowKit Go.ChangeShapes Go.WideShapes Go.Deep Go.Joins
theorem okSlice {P : Program} {w : World} {r : Reach} {base : Nat} {t e : TypeId} {v : Value} (ht : P.underlying t = some (.slice e)) (h : Value.okWide P w r base t v) :
    v = .slice none 0 0 ∨ ∃ b o len cap, v = .slice (some ⟨b, o, none⟩) len cap := by
  simp only [Value.okWide, ht, Cell.okWide] at h
  cases v with
  | slice a len cap =>
    cases a with
    | none =>
      simp only [Cell.ok, ht] at h
      cases len <;> cases cap <;> simp at h
      exact .inl rfl
    | some a =>
      simp only [Cell.ok, ht] at h
      obtain ⟨_, _, _, hs, _⟩ := h
      obtain ⟨b, o, s⟩ := a
      cases hs
      exact .inr ⟨b, o, len, cap, rfl⟩
  | _ => simp [Cell.ok, ht] at h
section
variable {H : Type} {enc : TypeId × Value → H} {w : World} {base : Nat} {spare : Nat → Bool} {held : Bool}
theorem cellsBool : Try.prog.cellsOf 4 = 1 := by kernel_rfl
theorem cellsInt : Try.prog.cellsOf 3 = 1 := by kernel_rfl
theorem cellsU8 : Try.prog.cellsOf 5 = 1 := by kernel_rfl
set_option maxRecDepth 100000 in
/-- A row of numbers. -/
theorem open_intsL {v : Value} {d : DataW H} {p : List MemPlace} {W : World} {b0 : Nat} (hv : Value.okWide Try.prog W .any b0 30 v) (h : DataW.Trod enc Try.prog W 0 (fun _ => true) true 30 v d p) :
    ∃ l : List Int, HasI W v l ∧ l.length ≤ 9223372036854775807 ∧ ∀ z ∈ l, -9223372036854775808 ≤ z ∧ z ≤ 9223372036854775807 := by
  obtain ⟨fuel, hf⟩ := h
  rcases okSlice Try.underlying30 hv with rfl | ⟨b, o, len, cap, rfl⟩
  · exact ⟨[], Has.nil 1 W, by simp, by simp⟩
  rcases open_ints Try.underlying30 Try.underlying3 cellsInt hf with ⟨hcs, _⟩ | ⟨a, len', cap', zs, hcs, _, hl, hm, hz, hx, hcell, hwz⟩
  · simp [Value.cells] at hcs
  simp only [Value.cells, List.cons.injEq, Value.slice.injEq, and_true, Option.some.injEq] at hcs
  obtain ⟨rfl, rfl, rfl⟩ := hcs
  simp only [if_true] at hz
  have hlen : (zs.take len).length = len := by rw [List.length_take]; omega
  refine ⟨zs.take len, .inl ⟨b, o, len, cap, rfl, by simp only [ints, List.length_map, hlen]; omega, hl, fun j u hj => ?_⟩, ?_, fun z hz' => ?_⟩
  · simp only [ints, List.getElem?_map, Option.map_eq_some_iff] at hj
    obtain ⟨z, hj, rfl⟩ := hj
    obtain ⟨hjl, hj⟩ := List.getElem?_eq_some_iff.1 hj
    rw [hlen] at hjl
    have := hcell j (by omega)
    rw [add_lit] at this
    rw [this, ← hj, List.getElem_take, List.getD_eq_getElem?_getD, List.getElem?_eq_getElem (by omega)]; rfl
  · rw [hlen]; have : maxLen = 9223372036854775807 := rfl; omega
  · have := bounds_i64 (hwz z (List.mem_of_mem_take hz')); omega
set_option maxRecDepth 100000 in
/-- A row of bytes. -/
theorem open_bytesL {v : Value} {d : DataW H} {p : List MemPlace} {W : World} {b0 : Nat} (hv : Value.okWide Try.prog W .any b0 28 v) (h : DataW.Trod enc Try.prog W 0 (fun _ => true) true 28 v d p) :
    ∃ l : List UInt8, HasB W v l := by
  obtain ⟨fuel, hf⟩ := h
  rcases okSlice Try.underlying28 hv with rfl | ⟨b, o, len, cap, rfl⟩
  · exact ⟨[], Has.nil 1 W⟩
  rcases open_ints Try.underlying28 Try.underlying5 cellsU8 hf with ⟨hcs, _⟩ | ⟨a, len', cap', zs, hcs, _, hl, hm, hz, hx, hcell, hwz⟩
  · simp [Value.cells] at hcs
  simp only [Value.cells, List.cons.injEq, Value.slice.injEq, and_true, Option.some.injEq] at hcs
  obtain ⟨rfl, rfl, rfl⟩ := hcs
  simp only [if_true] at hz
  have hlen : (zs.take len).length = len := by rw [List.length_take]; omega
  refine ⟨(zs.take len).map fun z => UInt8.ofNat z.toNat, .inl ⟨b, o, len, cap, rfl, by simp [bs]; omega, hl, fun j u hj => ?_⟩⟩
  simp only [bs, List.map_map, List.getElem?_map, Option.map_eq_some_iff, Function.comp] at hj
  obtain ⟨z, hj, rfl⟩ := hj
  obtain ⟨hjl, hj⟩ := List.getElem?_eq_some_iff.1 hj
  rw [hlen] at hjl
  have := hcell j (by omega)
  rw [add_lit] at this
  have hbz := bounds_u8 (hwz z (by rw [← hj, List.getElem_take]; exact List.getElem_mem _))
  rw [this, ← hj, List.getElem_take, List.getD_eq_getElem?_getD, List.getElem?_eq_getElem (by omega)]
  rw [List.getElem_take] at hj
  have hz' : ((UInt8.ofNat z.toNat).toNat : Int) = z := by rw [UInt8.toNat_ofNat']; omega
  rw [hj, hz']; rfl
theorem u8_nat {n : Int} (h : (Lit.int .u8 n).wf = true) : ∃ k : Nat, k < 256 ∧ n = (k : Int) := by
  have := bounds_u8 h
  exact ⟨n.toNat, by omega, by omega⟩
/-- What is only read reads as it did. -/
theorem argsStay {P : Program} {W W' : World} (hl : laidOutB P = true) (hb : Below W.heap.size W W') : ∀ {ts : List TypeId} {vs : List Value} {ds : List (DataW H)} {ps : List MemPlace}, (ts.all fun t => P.readableRec t && decide (t < P.types.size)) = true →
    DataW.TrodAll enc P W 0 (fun _ => true) true ts vs ds ps → (∀ x ∈ ps, x.block < W.heap.size) → DataW.TrodAll enc P W' 0 (fun b => decide (b < W.heap.size)) true ts vs ds ps
  | [], _, _, _, _, h, _ => by
    obtain ⟨rfl, rfl, rfl⟩ := trodAll_nil h
    exact trodAll_mk0
  | t :: ts, _, _, _, ht, h, hlt => by
    obtain ⟨v, vs, d, ds, p, q, rfl, rfl, rfl, h0, h1⟩ := trodAll_cons h
    simp only [List.all_cons, Bool.and_eq_true, decide_eq_true_eq] at ht
    exact trodAll_cons_mk (Below.trod hl ht.1.1 ht.1.2 h0 hb (fun x hx => hlt x (by simp [hx]))) (argsStay hl hb ht.2 h1 (fun x hx => hlt x (by simp [hx])))
end
end Go.Proofs.Ytneehlkofcdhoaa

/- Arguments opened: rows of groups of pages. -/
namespace Go.Proofs.Ytneehlkofcdhoaa
open Go
set_option linter.unusedSimpArgs false
open Go.RowKit Go.ChangeShapes Go.WideShapes Go.Deep Go.Joins
section
variable {H : Type} {enc : TypeId × Value → H} {w : World} {base : Nat} {spare : Nat → Bool} {held : Bool}
theorem spot_none {a : Addr} {v : Value} (h : w.cell? a = some v) : a.spot = none := by
  obtain ⟨b, o, s⟩ := a
  cases s with
  | none => rfl
  | some s =>
    simp only [World.cell?] at h
    split at h <;> simp at h
theorem open_intsX {c : Value} {fuel : Nat} {x : DataW H × List MemPlace} (h : DataW.trod enc Try.prog w base (fun _ => true) held fuel 30 [c] = some x) : ∃ l : List Int, HasX w c l := by
  rcases open_ints Try.underlying30 Try.underlying3 cellsInt h with ⟨hcs, _⟩ | ⟨a, len, cap, zs, hcs, _, hl, hm, hz, hx, hcell, hwz⟩
  · cases hcs; exact ⟨[], .inl (Has.nil 1 w)⟩
  · cases hcs
    simp only [if_true] at hz
    by_cases h0 : cap = 0
    · subst h0
      obtain rfl : len = 0 := by omega
      exact ⟨[], .inr ⟨rfl, a, rfl⟩⟩
    · have hs := hcell 0 (by omega)
      rw [show a.add 0 = a from if_pos rfl] at hs
      have hsp := spot_none hs
      obtain ⟨b, o, s⟩ := a
      cases hsp
      have hlen : (zs.take len).length = len := by rw [List.length_take]; omega
      refine ⟨zs.take len, .inl (.inl ⟨b, o, len, cap, rfl, by simp only [ints, List.length_map, hlen]; omega, hl, fun j u hj => ?_⟩)⟩
      simp only [ints, List.getElem?_map, Option.map_eq_some_iff] at hj
      obtain ⟨z, hj, rfl⟩ := hj
      obtain ⟨hjl, hj⟩ := List.getElem?_eq_some_iff.1 hj
      rw [hlen] at hjl
      have := hcell j (by omega)
      rw [add_lit] at this
      rw [this, ← hj, List.getElem_take, List.getD_eq_getElem?_getD, List.getElem?_eq_getElem (by omega)]; rfl
theorem cellsDeed3 : Try.prog.cellsOf 32 = 3 := by kernel_rfl
theorem cellsInts : Try.prog.cellsOf 30 = 1 := by kernel_rfl
set_option maxRecDepth 100000 in
theorem deed3_fields {fuel : Nat} {cs : List Value} {x : DataW H × List MemPlace} (h : DataW.trod enc Try.prog w base (fun _ => true) held fuel 32 cs = some x) :
    ∃ (y : Deed3) (u : Value), cs = [.bool y.short, u, .int .u8 (y.byte.toNat : Int)] ∧ HasX w u y.pages := by
  obtain ⟨y0, y1, y2, n, _, hl, h0, h1, h2⟩ := trod_struct3 Try.underlying32 h
  rw [cellsDeed3] at hl
  match cs, hl with
  | [c0, c1, c2], _ =>
    simp only [cellsBool, cellsInts, cellsU8, List.drop_zero, List.drop_succ_cons, List.take_succ_cons, List.take_zero] at h0 h1 h2
    obtain ⟨a0, e0, _⟩ := DataW.trod_bool Try.underlying4 h0
    obtain ⟨l, hl⟩ := open_intsX h1
    obtain ⟨a2, e2, _, wf⟩ := DataW.trod_int Try.underlying5 h2
    cases e0; cases e2
    have hb := bounds_u8 wf
    refine ⟨⟨a0, l, UInt8.ofNat a2.toNat⟩, c1, ?_, hl⟩
    have : ((UInt8.ofNat a2.toNat).toNat : Int) = a2 := by
      rw [UInt8.toNat_ofNat']; omega
    simp only [this]
set_option maxRecDepth 100000 in
theorem open_deeds3 {v : Value} {d : DataW H} {p : List MemPlace} {W : World} {b0 : Nat} (hv : Value.okWide Try.prog W .any b0 22 v) (h : DataW.Trod enc Try.prog W 0 (fun _ => true) true 22 v d p) :
    ∃ l : List Deed3, DeedsAt W v l ∧ l.length ≤ 9223372036854775807 := by
  have hC := cellsDeed3
  obtain ⟨fuel, hf⟩ := h
  rcases okSlice Try.underlying22 hv with rfl | ⟨b, o, len, cap, rfl⟩
  · exact ⟨[], ⟨[], Has.nil 3 W, rfl, fun i hi => by simp at hi⟩, by simp⟩
  rcases open_slice Try.underlying22 hf with ⟨hcs, _⟩ | ⟨a, len', cap', m, n, D, Pl, hcs, hb, hl, hm, hmm, hx, hi⟩
  · simp [Value.cells] at hcs
  simp only [Value.cells, List.cons.injEq, Value.slice.injEq, and_true, Option.some.injEq] at hcs
  obtain ⟨rfl, rfl, rfl⟩ := hcs
  simp only [if_true] at hmm
  have key : ∀ k, k ≤ len → ∃ (l : List Deed3) (xs : List Value), l.length = k ∧ xs.length = 3 * k ∧ (∀ j u, xs[j]? = some u → W.cell? ⟨b, o + j, none⟩ = some u) ∧
      ∀ i (h : i < l.length), ∃ u, xs[3 * i]? = some (.bool l[i].short) ∧ xs[3 * i + 1]? = some u ∧ xs[3 * i + 2]? = some (.int .u8 (l[i].byte.toNat : Int)) ∧ HasX W u l[i].pages := by
    intro k
    induction k with
    | zero => intro _; exact ⟨[], [], rfl, rfl, fun j u hj => by simp at hj, fun i hi => by simp at hi⟩
    | succ k ih =>
      intro hk
      obtain ⟨l, xs, hll, hxl, hlc, hld⟩ := ih (by omega)
      obtain ⟨cs', hc, ht'⟩ := hi k (by omega)
      obtain ⟨y, u, rfl, hu⟩ := deed3_fields ht'
      obtain ⟨_, _, hat⟩ := World.cells?_some hc
      rw [hC] at hat
      refine ⟨l ++ [y], xs ++ [.bool y.short, u, .int .u8 (y.byte.toNat : Int)], by simp [hll], by simp [hxl]; omega, fun j v hj => ?_, fun i hi => ?_⟩
      · by_cases hjl : j < xs.length
        · rw [List.getElem?_append_left hjl] at hj; exact hlc j v hj
        · rw [List.getElem?_append_right (by omega)] at hj
          have hj3 : j - xs.length < 3 := by
            have := (List.getElem?_eq_some_iff.1 hj).1
            simpa using this
          have := hat (j - xs.length) hj3
          rw [add_lit, add_lit, hj] at this
          rw [← this]
          congr 2; omega
      · by_cases hil : i < l.length
        · obtain ⟨v, h1, h2, h3, h4⟩ := hld i hil
          refine ⟨v, ?_, ?_, ?_, ?_⟩
          · rw [List.getElem?_append_left (by omega), List.getElem_append_left hil]; exact h1
          · rw [List.getElem?_append_left (by omega)]; exact h2
          · rw [List.getElem?_append_left (by omega), List.getElem_append_left hil]; exact h3
          · rw [List.getElem_append_left hil]; exact h4
        · have hie : i = k := by simp at hi; omega
          subst hie
          have hy : (l ++ [y])[i]'hi = y := by rw [List.getElem_append_right (by omega)]; simp [hll]
          rw [hy]
          refine ⟨u, ?_, ?_, ?_, hu⟩
          · rw [List.getElem?_append_right (by omega), show 3 * i - xs.length = 0 from by omega]; rfl
          · rw [List.getElem?_append_right (by omega), show 3 * i + 1 - xs.length = 1 from by omega]; rfl
          · rw [List.getElem?_append_right (by omega), show 3 * i + 2 - xs.length = 2 from by omega]; rfl
  obtain ⟨l, xs, hll, hxl, hlc, hld⟩ := key len (Nat.le_refl _)
  exact ⟨l, ⟨xs, .inl ⟨b, o, len, cap, rfl, by omega, hl, hlc⟩, by omega, hld⟩, by have : maxLen = 9223372036854775807 := rfl; omega⟩
end
end Go.Proofs.Ytneehlkofcdhoaa
