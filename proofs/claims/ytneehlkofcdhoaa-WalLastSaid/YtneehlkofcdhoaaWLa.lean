/- WalLast: the walk. -/
import Derived.Test.YtneehlkofcdhoaaDl
namespace Go.Proofs.Ytneehlkofcdhoaa
open Go
set_option linter.unusedSimpArgs false
open Go.RowKit (intOf)
/-- What each page holds. -/
def Tells1 (D : Dsk) (W : List UInt8) : Prop := W.length = 14 ∧ ∀ j (h : j < W.length), D.image[10 + j]? = some (List.replicate 512 W[j])
def fillW (W : List UInt8) (ps : List Pg) : List UInt8 := ps.foldl (fun W p => W.set p.1.toNat (p.2.getD 0 0)) W
theorem fillW_length : ∀ (ps : List Pg) (W : List UInt8), (fillW W ps).length = W.length
  | [], _ => rfl
  | p :: ps, W => (fillW_length ps _).trans (List.length_set ..)
theorem fillW_other : ∀ (ps : List Pg) (W : List UInt8) (j : Nat), (∀ p ∈ ps, p.1.toNat ≠ j) → (fillW W ps)[j]? = W[j]?
  | [], _, _, _ => rfl
  | p :: ps, W, j, h => (fillW_other ps _ j (fun q hq => h q (by simp [hq]))).trans (List.getElem?_set_ne (h p (by simp)))
theorem fillW_mem : ∀ (ps : List Pg) (W : List UInt8) (p : Pg), (∀ p ∈ ps, 0 ≤ p.1) → (ps.map (·.1)).Nodup → p ∈ ps → p.1.toNat < W.length → (fillW W ps)[p.1.toNat]? = some (p.2.getD 0 0)
  | q :: ps, W, p, h0, hn, hp, hl => by
    rw [List.map_cons, List.nodup_cons] at hn
    have hcons : fillW W (q :: ps) = fillW (W.set q.1.toNat (q.2.getD 0 0)) ps := rfl
    rw [hcons]
    by_cases hps : p ∈ ps
    · exact fillW_mem ps _ p (fun r hr => h0 r (by simp [hr])) hn.2 hps (by rw [List.length_set]; exact hl)
    · have hpq : p = q := by simpa [hps] using hp
      subst hpq
      rw [fillW_other ps _ _ (fun r hr he => hn.1 (List.mem_map.2 ⟨r, hr, by have := h0 r (by simp [hr]); have := h0 p (by simp); omega⟩)), List.getElem?_set_self hl]
theorem fillW_take {W : List UInt8} {ps : List Pg} {k : Nat} (h : k < ps.length) : fillW W (ps.take (k + 1)) = (fillW W (ps.take k)).set ps[k].1.toNat (ps[k].2.getD 0 0) := by
  rw [List.take_succ_eq_append_getElem h, fillW, List.foldl_append]; rfl
theorem page_form {x : Deed3} {p : Pg} (hp : p ∈ x.pgs) (hl : p.2.length = 512) : p.2 = List.replicate 512 (p.2.getD 0 0) := by
  simp only [Deed3.pgs, List.mem_map] at hp
  obtain ⟨i, _, rfl⟩ := hp
  simp only [Deed3.page] at hl ⊢
  rw [List.length_replicate] at hl
  rw [hl, List.getD_eq_getElem?_getD, List.getElem?_replicate, if_pos (by omega)]; rfl
theorem tells1_commit {D : Dsk} {W : List UInt8} {x : Deed3} (h : Tells1 D W) (hD : D.first.length = 24) (hc : ccode 24 9 x.pgs = 0) : Tells1 (cdone 9 D x.pgs) (fillW W x.pgs) := by
  by_cases hne : x.pgs = []
  · rw [hne]
    exact h
  obtain ⟨h1, h2, h3, h4⟩ := ccode_ok hc hne
  have h0 := anyOut_nonneg h2
  have hlt := sortP_lt h0 h2
  rw [cdone_ok hD hc hne]
  refine ⟨by rw [fillW_length]; exact h.1, fun j hj => ?_⟩
  have hj14 : j < 14 := by rw [fillW_length, h.1] at hj; exact hj
  by_cases hm : ∃ p ∈ x.pgs, p.1 = (j : Int)
  · obtain ⟨p, hp, hpj⟩ := hm
    have hpn : p.1.toNat = j := by omega
    have hpm : (j, p.2) ∈ sortP x.pgs := (sortP_mem h0).2 (by rw [← hpj]; exact hp)
    have hg := grouped_page (size := 9) (D := D) (nodup_lt (sortP_rising h3 h0)) (fun q hq => by have := hlt q hq; omega) hpm
    have hf := fillW_mem x.pgs W p h0 h3 hp (by rw [hpn, h.1]; exact hj14)
    rw [hpn, List.getElem?_eq_getElem hj] at hf
    rw [Option.some.inj hf, ← page_form hp (h4 p hp)]
    exact hg
  · have hno : ∀ p ∈ sortP x.pgs, 9 + 1 + p.1 ≠ 10 + j := fun p hp he => hm ⟨((p.1 : Int), p.2), (sortP_mem h0).1 hp, by simp only; omega⟩
    rw [grouped_other (by rw [sortP_length]; omega) (by omega) hno]
    have hf := fillW_other x.pgs W j (fun p hp he => hm ⟨p, hp, by have := h0 p hp; omega⟩)
    rw [List.getElem?_eq_getElem hj, List.getElem?_eq_getElem (by rw [h.1]; exact hj14)] at hf
    rw [Option.some.inj hf]
    exact h.2 j (by rw [h.1]; exact hj14)
theorem bs_set (l : List UInt8) (i : Nat) (c : UInt8) : (bs l).set i (.int .u8 c.toNat) = bs (l.set i c) := by simp [bs, List.map_set]
set_option maxHeartbeats 4000000 in
theorem walLast_walk {w : World} {lv : Value} {l : List Deed3} (hv : DeedsAt w lv l) :
    Calls Try.prog 3 #[lv] w (Ret fun v w' => v = .bool true ∧ Grow w w') := by
  apply enter3
  apply R_in
  simp (maxSteps := 1000000) (disch := omega) only [↓sy1, sy2, sy3, readOK, sy5, sy6, Nat.reduceEqDiff, ↓reduceIte, sy7, sy8, sy9, sya, oneOf, syb, syc, Nat.reduceAdd, Nat.reduceMul, syd, sye, syf, syg, syh, reduceCtorEq, F3]
  refine call0 (lopen_spec (G := G00) (n := 24) (size := 9) 1 2 (by omega) (by omega) (by omega) (by omega) (by omega)) ?_
  rintro _ w1 ⟨q, r, G1, rfl, hq1, hl1, _, hx1⟩
  simp (maxSteps := 1000000) (disch := omega) only [↓sy1, sy2, sy3, readOK, sy5, sy6, Nat.reduceEqDiff, ↓reduceIte, sy7, sy8, sy9, sya, oneOf, syb, syc, Nat.reduceAdd, Nat.reduceMul, syd, sye, syf, syg, syh, reduceCtorEq]
  refine call0 (live3_spec _) ?_
  rintro _ w2 ⟨rfl, hg2⟩
  simp (maxSteps := 1000000) (disch := omega) only [↓sy1, sy2, sy3, readOK, sy5, sy6, Nat.reduceEqDiff, ↓reduceIte, sy7, sy8, sy9, sya, oneOf, syb, syc, Nat.reduceAdd, Nat.reduceMul, syd, sye, syf, syg, syh, reduceCtorEq, Bool.not_true]
  refine mk_rule elemB (kx := .i64) (ky := .i64) (a := 14) (c := 14) (by simp only [upd_at, Nat.reduceEqDiff, reduceIte, ev_tmp, ev_const, List.map_cons, List.map_nil]) (by simp only [upd_at, Nat.reduceEqDiff, reduceIte, ev_tmp, ev_const, List.map_cons, List.map_nil]) (by omega) (by omega) (by omega) (by omega) rfl ?_
  have hg3 : Grow w2 (w2.alloc (.cells (Array.replicate (14 : Int).toNat (.int .u8 0)) 5)) := (Keep.refl _ _).alloc _
  have ho3 := own_made w2 w2.heap.size (Nat.le_refl _) 5 (14 : Int).toNat (by decide) (.int .u8 0)
  have hs3 : w2.heap.size < (w2.alloc (.cells (Array.replicate (14 : Int).toNat (.int .u8 0)) 5)).heap.size := by simp
  generalize w2.alloc (.cells (Array.replicate (14 : Int).toNat (.int .u8 0)) 5) = w3 at hg3 ho3 hs3 ⊢
  rw [show (14 : Int).toNat = 14 from rfl] at ho3 ⊢
  have hbw : (Value.slice (some ⟨w2.heap.size, 0, none⟩) 14 14).ownBlock = some w2.heap.size := rfl
  generalize (Value.slice (some ⟨w2.heap.size, 0, none⟩) 14 14) = wv at ho3 hbw ⊢
  have hBw : w.heap.size ≤ w2.heap.size := (hx1.trans (.grow hg2)).size
  generalize hbe : w2.heap.size = bw at hbw hs3 hBw ho3
  have ho3' : w3.ownsRow bw 5 1 wv 14 (bs (List.replicate 14 0)) := by
    have : bs (List.replicate 14 0) = List.replicate 14 (Value.int .u8 0) := by simp [bs]
    rw [this]; exact ho3
  have hx3 : Ext0 G1 w2 (G1.at bw 3 0) w3 := .fresh hg3 (Nat.le_of_eq hbe)
  have hxw3 : Ext (fun c => c = 1 ∨ c = 3) G00 w (G1.at bw 3 0) w3 := ((hx1.trans (.grow hg2)).trans hx3).mono (fun _ h => h.elim)
  simp (maxSteps := 1000000) (disch := omega) only [↓sy1, sy2, sy3, readOK, sy5, sy6, Nat.reduceEqDiff, ↓reduceIte, sy7, sy8, sy9, sya, oneOf, syb, syc, Nat.reduceAdd, Nat.reduceMul, syd, sye, syf, syg, syh, reduceCtorEq]
  refine loop_rule (fun e w' => ∃ (i : Nat) (G' : Gh) (W : List UInt8), i ≤ min l.length 10 ∧ e 7 = .int .i64 i ∧ e 3 = .pointer (some ⟨q, 0, none⟩) ∧ e 0 = lv ∧ e 6 = wv ∧
      LogAt G' 1 w' q 9 0 (commits 9 (Dsk.zero 24) (l.take i)) ∧ Tells1 (commits 9 (Dsk.zero 24) (l.take i)) W ∧ w'.ownsRow bw 5 1 wv 14 (bs W) ∧ bw < w'.heap.size ∧ G'.own bw = 3 ∧ G'.fix bw = 0 ∧ Ext (fun c => c = 1 ∨ c = 3) G00 w G' w') (fun e _ => min l.length 10 - (intOf (e 7)).toNat)
    ⟨0, G1.at bw 3 0, List.replicate 14 0, by omega, by simp [upd, updO, ev], by simp [upd, updO, ev], by simp [upd, updO, ev], by simp [upd, updO, ev], (hl1.grow hg2).ext hx3 id id, ⟨rfl, fun j hj => ?_⟩, ho3', hs3, Gh.at_own, Gh.at_fix, hxw3⟩ ?_
  · simp only [List.length_replicate] at hj
    rw [List.getElem_replicate]
    exact zero_image (n := 24) (i := 10 + j) (by omega)
  rintro e w4 ⟨i, G4, W, hi, e7, e3, e0, e6, hl4, ht4, ho4, hs4, hob4, hfb4, hxw4⟩
  have hg4 : Grow w w4 := hxw4.toGrow (by omega)
  have hv4 := hv.grow hg4
  have hops := commits_below (D := Dsk.zero 24) (size := 9) (l := l) (i := i) (k := 10) (by omega) rfl
  have hfirst : (commits 9 (Dsk.zero 24) (l.take i)).first.length = 24 := by rw [commits_first, zero_len]
  by_cases hlt : i < min l.length 10
  · have hil : i < l.length := by omega
    have hstep := commits_take (size := 9) (D := Dsk.zero 24) (l := l) (i := i) hil
    generalize hDD : commits 9 (Dsk.zero 24) (l.take i) = D at hl4 hops hfirst hstep ht4
    obtain ⟨a, u, ha, hld, hx⟩ := hv4.at (i := i) hil
    simp (maxSteps := 1000000) (disch := omega) only [↓sy1, sy2, sy3, readOK, sy5, sy6, Nat.reduceEqDiff, ↓reduceIte, sy7, sy8, sy9, sya, oneOf, syb, syc, Nat.reduceAdd, Nat.reduceMul, syd, sye, syf, syg, syh, reduceCtorEq, F3_L1, e7, e3, e0, e6, hv4.len, Int.ofNat_lt, show i < l.length from by omega, show ((i : Int) < 10) from by omega, decide_true, ha, hld]
    refine call0 (dpages_spec hx) ?_
    rintro pv w5 ⟨hpv, hg5⟩
    have hx5 : Ext0 G4 w4 (G4.new w4.heap.size) w5 := .newB hg5
    obtain ⟨xs, hps⟩ := hpv.held (G := G4.new w4.heap.size) (κ := 1) (fun b hb => by rw [Gh.new_own hb]; omega)
    simp (maxSteps := 1000000) (disch := omega) only [↓sy1, sy2, sy3, readOK, sy5, sy6, Nat.reduceEqDiff, ↓reduceIte, sy7, sy8, sy9, sya, oneOf, syb, syc, Nat.reduceAdd, Nat.reduceMul, syd, sye, syf, syg, syh, reduceCtorEq, e7, e3, e0, e6]
    refine call0 (commit_spec (hl4.ext hx5 id id) hps (pgs_most _) (by omega)) ?_
    rintro _ w6 ⟨rfl, G6, hl6, hx6⟩
    have hx46 : Ext (fun c => c = 1) G4 w4 G6 w6 := (hx5.mono (fun _ h => h.elim)).trans hx6
    have hbw6 : G6.own bw = 3 := by rw [hx46.own bw hs4]; exact hob4
    have hbf6 : G6.fix bw = 0 := by rw [hx46.fixe bw hs4 (by rw [hob4]; omega)]; exact hfb4
    have ho6 : w6.ownsRow bw 5 1 wv 14 (bs W) := own_keep ho4 hx46.keep (fun b hb h => by
      rw [hbw] at hb; cases hb
      rw [hob4] at h; omega)
    have hpv6 : FreshP w4.heap.size w6 pv l[i].pgs := hpv.keep hx6.keep (fun b hb => by rw [Gh.new_own hb]; omega)
    have hs6 : bw < w6.heap.size := Nat.lt_of_lt_of_le hs4 hx46.size
    have hxw6 : Ext (fun c => c = 1 ∨ c = 3) G00 w G6 w6 := hxw4.trans (hx46.mono (fun _ h => .inl h))
    have hpl2 := l[i].pgs_length
    have htc := tells1_commit (x := l[i]) ht4 hfirst
    generalize l[i].pgs = ps at hpv6 hl6 hstep htc hpl2 ⊢
    by_cases hcc : ccode D.first.length 9 ps = 0
    · rw [hcc]
      rw [hfirst] at hcc
      have ht6 := htc hcc
      have hform : ∀ k (h : k < ps.length), (∃ m : Nat, m < 14 ∧ ps[k].1 = (m : Int)) ∧ ps[k].2.length = 512 := fun k hk => by
        have hne : ps ≠ [] := fun h => by rw [h] at hk; simp at hk
        obtain ⟨h1, h2, h3, h4⟩ := ccode_ok hcc hne
        have hp := List.getElem_mem hk
        have h5 : ¬ outOf 14 _ := fun hc => h2 ⟨_, hp, hc⟩
        simp only [outOf] at h5
        exact ⟨⟨ps[k].1.toNat, by omega, by omega⟩, h4 _ hp⟩
      simp (maxSteps := 1000000) (disch := omega) only [↓sy1, sy2, sy3, readOK, sy5, sy6, Nat.reduceEqDiff, ↓reduceIte, sy7, sy8, sy9, sya, oneOf, syb, syc, Nat.reduceAdd, Nat.reduceMul, syd, sye, syf, syg, syh, reduceCtorEq, e7, e3, e0, e6, decide_true, Bool.not_true]
      refine loop_rule (fun e w' => ∃ (k : Nat), k ≤ ps.length ∧ e 9 = .int .i64 k ∧ e 8 = pv ∧ e 7 = .int .i64 i ∧ e 3 = .pointer (some ⟨q, 0, none⟩) ∧ e 0 = lv ∧ e 6 = wv ∧
          w'.ownsRow bw 5 1 wv 14 (bs (fillW W (ps.take k))) ∧ Keep (fun b => b = bw) w6 w') (fun e _ => ps.length - (intOf (e 9)).toNat)
        ⟨0, by omega, by simp [upd, updO, ev], by simp [upd, updO, ev], by simp [upd, updO, ev, e7], by simp [upd, updO, ev, e3], by simp [upd, updO, ev, e0], by simp [upd, updO, ev, e6], ho6, Keep.refl _ _⟩ ?_
      rintro e w7 ⟨k, hk, e9, e8, e7, e3, e0, e6, ho7, hk7⟩
      have hpv7 : FreshP w4.heap.size w7 pv ps := hpv6.keep hk7 (fun b hb h => by omega)
      obtain ⟨xs7, hps7⟩ := hpv7.held (G := G00) (κ := 1) (fun b hb => by show 0 ≠ 1; omega)
      by_cases hkl : k < ps.length
      · obtain ⟨⟨m, hm, hpm⟩, h512⟩ := hform k hkl
        have hfl : (fillW W (ps.take k)).length = 14 := by rw [fillW_length]; exact ht4.1
        simp (maxSteps := 1000000) (disch := omega) only [↓sy1, sy2, sy3, readOK, sy5, sy6, Nat.reduceEqDiff, ↓reduceIte, sy7, sy8, sy9, sya, oneOf, syb, syc, Nat.reduceAdd, Nat.reduceMul, syd, sye, syf, syg, syh, reduceCtorEq, F3_L0, e9, e8, e7, e3, e0, e6, hps7.len, Int.ofNat_lt, hkl, decide_true]
        refine draw3_0 (fun _ => False) ?_
        have hgd : Grow w7 w7.drew := (Keep.refl _ _).drew
        have ho8 := own_grow ho7 hgd
        have hps8 := hps7.grow hgd
        generalize w7.drew = w8 at hgd ho8 hps8 ⊢
        obtain ⟨b, o, u, hia, hc0, hc1, hu⟩ := hps8.parts hkl
        obtain ⟨a0, ha0, hac0, _⟩ := Has.getB hu.1 (i := 0) (by omega)
        have ha0' : iaF 1 u (.int .i64 0) = some (.pointer (some a0)) := ha0
        obtain ⟨a1, w9, ha1, hst, ho9, hk9, _⟩ := own_store ho8 hm (u := .int .u8 (ps[k].2[0].toNat : Int)) rfl
        rw [hpm] at hc0
        simp (maxSteps := 1000000) (disch := omega) only [↓sy1, sy2, sy3, readOK, sy5, sy6, Nat.reduceEqDiff, ↓reduceIte, sy7, sy8, sy9, sya, oneOf, syb, syc, Nat.reduceAdd, Nat.reduceMul, syd, sye, syf, syg, syh, reduceCtorEq, PL3_0, e9, e8, e7, e3, e0, e6, hia, hc0, hc1, ha0', hac0, ha1, hst]
        refine R_out ⟨⟨k + 1, by omega, rfl, ?_, ?_⟩, ?_⟩
        · rw [fillW_take hkl, hpm]
          have hg0 : ps[k].2.getD 0 0 = ps[k].2[0] := by rw [List.getD_eq_getElem?_getD, List.getElem?_eq_getElem]; rfl
          rw [hg0, Int.toNat_natCast, ← bs_set]
          exact ho9
        · exact (hk7.then hgd (fun _ _ h => h.elim)).then hk9 (fun b hb h => by rw [hbw] at h; cases h; rfl)
        · simp only [intOf]; omega
      · have hke : k = ps.length := by omega
        subst hke
        rw [List.take_length] at ho7
        simp (maxSteps := 1000000) (disch := omega) only [↓sy1, sy2, sy3, readOK, sy5, sy6, Nat.reduceEqDiff, ↓reduceIte, sy7, sy8, sy9, sya, oneOf, syb, syc, Nat.reduceAdd, Nat.reduceMul, syd, sye, syf, syg, syh, reduceCtorEq, F3_L0, e9, e8, e7, e3, e0, e6, hps7.len, Int.ofNat_lt, hkl, decide_false]
        have hx67 : Ext (fun c => c = 3) G6 w6 G6 w7 := .on0 hk7 hbw6 hbf6
        refine R_out ⟨⟨i + 1, G6, fillW W ps, by omega, rfl, ?_, ?_, ho7, Nat.lt_of_lt_of_le hs6 hk7.size, hbw6, hbf6, hxw6.trans (hx67.mono (fun _ h => .inr h))⟩, ?_⟩
        · rw [hstep]; exact hl6.ext hx67 (by omega) (by omega)
        · rw [hstep]; exact ht6
        · simp only [intOf]; omega
    · have hccn : ¬ (ccode D.first.length 9 ps = 0) := hcc
      have hnd : cdone 9 D ps = D := by unfold cdone; rw [if_neg (fun h => hccn h.2)]
      rw [hnd] at hl6 hstep
      generalize ccode D.first.length 9 ps = c at hccn ⊢
      simp (maxSteps := 1000000) (disch := omega) only [↓sy1, sy2, sy3, readOK, sy5, sy6, Nat.reduceEqDiff, ↓reduceIte, sy7, sy8, sy9, sya, oneOf, syb, syc, Nat.reduceAdd, Nat.reduceMul, syd, sye, syf, syg, syh, reduceCtorEq, e7, e3, e0, e6, hccn, decide_false, Bool.not_false]
      refine R_out ⟨⟨i + 1, G6, W, by omega, rfl, by rw [hstep]; exact hl6, by rw [hstep]; exact ht4, ho6, hs6, hbw6, hbf6, hxw6⟩, ?_⟩
      simp only [intOf]; omega
  · have hie : i = min l.length 10 := by omega
    have h512 := ht4.2
    generalize commits 9 (Dsk.zero 24) (l.take i) = D at hl4 hops hfirst ht4 h512
    by_cases h1 : i < l.length
    all_goals first
      | (simp (maxSteps := 1000000) (disch := omega) only [↓sy1, sy2, sy3, readOK, sy5, sy6, Nat.reduceEqDiff, ↓reduceIte, sy7, sy8, sy9, sya, oneOf, syb, syc, Nat.reduceAdd, Nat.reduceMul, syd, sye, syf, syg, syh, reduceCtorEq, F3_L1, e7, e3, e0, e6, hv4.len, Int.ofNat_lt, h1, show ¬ ((i : Int) < 10) from by omega, decide_true, decide_false])
      | (simp (maxSteps := 1000000) (disch := omega) only [↓sy1, sy2, sy3, readOK, sy5, sy6, Nat.reduceEqDiff, ↓reduceIte, sy7, sy8, sy9, sya, oneOf, syb, syc, Nat.reduceAdd, Nat.reduceMul, syd, sye, syf, syg, syh, reduceCtorEq, F3_L1, e7, e3, e0, e6, hv4.len, Int.ofNat_lt, h1, decide_true, decide_false])
    all_goals
      refine loop_rule (fun e w' => ∃ n : Nat, n ≤ 14 ∧ e 10 = .int .i64 n ∧ e 3 = .pointer (some ⟨q, 0, none⟩) ∧ e 6 = wv ∧ Grow w4 w') (fun e _ => 14 - (intOf (e 10)).toNat)
        ⟨0, by omega, by simp [upd, updO, ev], by simp [upd, updO, ev, e3], by simp [upd, updO, ev, e6], Keep.refl _ _⟩ ?_
      rintro e w5 ⟨n, hn, e10, e3, e6, hg5⟩
      by_cases hn4 : n < 14
      · simp (maxSteps := 1000000) (disch := omega) only [↓sy1, sy2, sy3, readOK, sy5, sy6, Nat.reduceEqDiff, ↓reduceIte, sy7, sy8, sy9, sya, oneOf, syb, syc, Nat.reduceAdd, Nat.reduceMul, syd, sye, syf, syg, syh, reduceCtorEq, F3_L2, e10, e3, e6, show ((n : Int) < 14) from by omega, decide_true]
        refine call0 (lread_spec (hl4.grow hg5) (n := n) (by omega)) ?_
        rintro _ w6 ⟨u, rfl, hu, hg6⟩
        have hin := h512 n (by rw [ht4.1]; exact hn4)
        have hin2 : D.image[9 + 1 + n]'(by rw [D.image_length]; omega) = List.replicate 512 (W[n]'(by rw [ht4.1]; exact hn4)) := by
          have hlen : 10 + n < D.image.length := by rw [D.image_length]; omega
          rw [List.getElem?_eq_getElem hlen] at hin
          have := Option.some.inj hin
          rw [← this]
        rw [hin2] at hu
        simp (maxSteps := 1000000) (disch := omega) only [↓sy1, sy2, sy3, readOK, sy5, sy6, Nat.reduceEqDiff, ↓reduceIte, sy7, sy8, sy9, sya, oneOf, syb, syc, Nat.reduceAdd, Nat.reduceMul, syd, sye, syf, syg, syh, reduceCtorEq]
        refine draw3_1 (fun _ => False) ?_
        have hgd : Grow w5 w6.drew := hg6.drew
        have hu7 : w6.drew.ownsRow w5.heap.size 5 1 u 512 (bs (List.replicate 512 (W[n]'(by rw [ht4.1]; exact hn4)))) := own_grow hu ((Keep.refl _ _).drew)
        have ho7 := own_grow ho4 (hg5.trans hgd)
        generalize w6.drew = w7 at hgd hu7 ho7 ⊢
        obtain ⟨a0, ha0, hac0, _⟩ := (Has.own hu7).getB (i := 0) (by rw [List.length_replicate]; omega)
        obtain ⟨a5, ha5, hac5, _⟩ := (Has.own hu7).getB (i := 511) (by rw [List.length_replicate]; omega)
        obtain ⟨aw, haw, hacw, _⟩ := (Has.own ho7).getB (i := n) (by rw [ht4.1]; exact hn4)
        rw [List.getElem_replicate] at hac0 hac5
        have ha0' : iaF 1 u (.int .i64 0) = some (.pointer (some a0)) := ha0
        have ha5' : iaF 1 u (.int .i64 511) = some (.pointer (some a5)) := ha5
        have hul : ∀ w', lenF w' 0 u = some (.int .i64 512) := fun w' => by rw [(Has.own hu7).lenB, List.length_replicate]; rfl
        generalize (W[n]'(by rw [ht4.1]; exact hn4)) = c at hac0 hac5 hacw
        have hz : ((0 : Int) = 0) = True := by simp
        have hz2 : ((512 : Int) = 512) = True := by simp
        simp (maxSteps := 1000000) (disch := omega) only [↓sy1, sy2, sy3, readOK, sy5, sy6, Nat.reduceEqDiff, ↓reduceIte, sy7, sy8, sy9, sya, oneOf, syb, syc, Nat.reduceAdd, Nat.reduceMul, syd, sye, syf, syg, syh, reduceCtorEq, PL3_1, e10, e3, e6, ha0', hac0, ha5', hac5, haw, hacw, hul, hz, hz2, decide_true, Bool.not_true]
        refine R_out ⟨⟨n + 1, by omega, rfl, hg5.trans hgd⟩, ?_⟩
        simp only [intOf]; omega
      · simp (maxSteps := 1000000) (disch := omega) only [↓sy1, sy2, sy3, readOK, sy5, sy6, Nat.reduceEqDiff, ↓reduceIte, sy7, sy8, sy9, sya, oneOf, syb, syc, Nat.reduceAdd, Nat.reduceMul, syd, sye, syf, syg, syh, reduceCtorEq, F3_L2, e10, e3, e6, show ¬ ((n : Int) < 14) from by omega, decide_false]
        exact R_out (hg4.trans hg5)
end Go.Proofs.Ytneehlkofcdhoaa
