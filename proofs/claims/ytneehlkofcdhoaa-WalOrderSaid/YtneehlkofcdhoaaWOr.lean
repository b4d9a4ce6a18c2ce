/- WalOrder: the walk. -/
import Derived.Test.YtneehlkofcdhoaaDl
import Derived.Test.YtneehlkofcdhoaaBe
namespace Go.Proofs.Ytneehlkofcdhoaa
open Go
set_option linter.unusedSimpArgs false
open Go.RowKit (intOf)
theorem rev_any (pages : Nat) (ps : List Pg) : anyOut pages ps.reverse ↔ anyOut pages ps := by simp [anyOut]
theorem rev_good (ps : List Pg) : goodP ps.reverse ↔ goodP ps := by
  simp only [goodP, List.map_reverse, List.mem_reverse]
  constructor
  · exact fun h => ⟨(List.reverse_perm _).nodup_iff.1 h.1, h.2⟩
  · exact fun h => ⟨(List.reverse_perm _).nodup_iff.2 h.1, h.2⟩
theorem rev_code (n size : Nat) (ps : List Pg) : ccode n size ps.reverse = ccode n size ps := by
  simp only [ccode, List.reverse_eq_nil_iff, List.length_reverse, rev_any, rev_good]
theorem rev_done (size : Nat) (D : Dsk) (ps : List Pg) : cdone size D ps.reverse = cdone size D ps := by
  unfold cdone
  simp only [rev_code, ne_eq, List.reverse_eq_nil_iff]
  split
  · rename_i h
    obtain ⟨_, h2, h3⟩ := ccode_ok h.2 h.1
    have h0 := anyOut_nonneg h2
    have h0r : ∀ p ∈ ps.reverse, 0 ≤ p.1 := fun p hp => h0 p (List.mem_reverse.1 hp)
    have h3r := (rev_good ps).2 h3
    rw [sortP_unique (ps := ps) h3.1 h0 (qs := sortP ps.reverse) (sortP_rising h3r.1 h0r) (fun n b => by rw [sortP_mem h0r, List.mem_reverse])]
  · rfl
set_option maxHeartbeats 4000000 in
theorem walOrder_walk {w : World} {k : Nat} {lv : Value} {l : List Deed3} (hk : k < 256) (hv : DeedsAt w lv l) :
    Calls Try.prog 7 #[.int .u8 (k : Int), lv] w (Ret fun v w' => v = .bool true ∧ Grow w w') := by
  apply enter7
  apply R_in
  simp (maxSteps := 1000000) (disch := omega) only [↓sy1, sy2, sy3, readOK, sy5, sy6, Nat.reduceEqDiff, ↓reduceIte, sy7, sy8, sy9, sya, oneOf, syb, syc, Nat.reduceAdd, Nat.reduceMul, syd, sye, syf, syg, syh, reduceCtorEq, F7, show (k : Int).tmod 20 = ((k % 20 : Nat) : Int) from rfl]
  rw [show ((k % 20 : Nat) : Int) + 1 = ((k % 20 + 1 : Nat) : Int) from rfl]
  generalize hsz : k % 20 + 1 = n
  have hn : 1 ≤ n ∧ n ≤ 20 := by omega
  rw [show (n : Int) + 12 = ((n + 12 : Nat) : Int) from rfl]
  refine call0 (lopen_spec (G := G00) (n := n + 12) (size := n) 1 3 (by omega) (by omega) (by omega) hn.1 (by omega)) ?_
  rintro _ w1 ⟨q, r, G1, rfl, hq1, hl1, _, hx1⟩
  simp (maxSteps := 1000000) (disch := omega) only [↓sy1, sy2, sy3, readOK, sy5, sy6, Nat.reduceEqDiff, ↓reduceIte, sy7, sy8, sy9, sya, oneOf, syb, syc, Nat.reduceAdd, Nat.reduceMul, syd, sye, syf, syg, syh, reduceCtorEq]
  rw [show (n : Int) + 12 = ((n + 12 : Nat) : Int) from rfl]
  refine call0 (lopen_spec (G := G1) (n := n + 12) (size := n) 2 3 (by omega) (by omega) (by omega) hn.1 (by omega)) ?_
  rintro _ w2 ⟨q', r', G2, rfl, hq2, hl2, _, hx2⟩
  simp (maxSteps := 1000000) (disch := omega) only [↓sy1, sy2, sy3, readOK, sy5, sy6, Nat.reduceEqDiff, ↓reduceIte, sy7, sy8, sy9, sya, oneOf, syb, syc, Nat.reduceAdd, Nat.reduceMul, syd, sye, syf, syg, syh, reduceCtorEq]
  refine call0 (live3_spec _) ?_
  rintro _ w3 ⟨rfl, hg3⟩
  have hx3 : Ext (fun c => c = 1 ∨ c = 2) G00 w G2 w3 := ((hx1.trans hx2).mono (fun _ h => h.elim)).trans (.grow hg3)
  simp (maxSteps := 1000000) (disch := omega) only [↓sy1, sy2, sy3, readOK, sy5, sy6, Nat.reduceEqDiff, ↓reduceIte, sy7, sy8, sy9, sya, oneOf, syb, syc, Nat.reduceAdd, Nat.reduceMul, syd, sye, syf, syg, syh, reduceCtorEq, Bool.not_true]
  refine loop_rule (fun e w' => ∃ (i : Nat) (G' : Gh), i ≤ min l.length 12 ∧ e 12 = .int .i64 i ∧ e 5 = .int .i64 n ∧ e 6 = .pointer (some ⟨q, 0, none⟩) ∧ e 9 = .pointer (some ⟨q', 0, none⟩) ∧ e 1 = lv ∧
      LogAt G' 1 w' q n 0 (commits n (Dsk.zero (n + 12)) (l.take i)) ∧ LogAt G' 2 w' q' n 0 (commits n (Dsk.zero (n + 12)) (l.take i)) ∧ Ext (fun c => c = 1 ∨ c = 2) G00 w G' w') (fun e _ => min l.length 12 - (intOf (e 12)).toNat)
    ⟨0, G2, by omega, by simp [upd, updO, ev], by simp [upd, updO, ev], by simp [upd, updO, ev], by simp [upd, updO, ev], by simp [upd, updO, ev], (hl1.ext hx2 id id).grow hg3, hl2.grow hg3, hx3⟩ ?_
  rintro e w4 ⟨i, G4, hi, e12, e5, e6, e9, e1, hl4, hm4, hx4⟩
  have hg4 := hx4.toGrow (by omega)
  have hv4 := hv.grow hg4
  have hops := commits_below (D := Dsk.zero (n + 12)) (size := n) (l := l) (i := i) (k := 12) (by omega) rfl
  have hfirst : (commits n (Dsk.zero (n + 12)) (l.take i)).first.length = n + 12 := by rw [commits_first, zero_len]
  by_cases hlt : i < min l.length 12
  · have hstep := commits_take (size := n) (D := Dsk.zero (n + 12)) (l := l) (i := i) (by omega)
    generalize commits n (Dsk.zero (n + 12)) (l.take i) = D at hl4 hm4 hops hfirst hstep
    obtain ⟨a, u, ha, hld, hx⟩ := hv4.at (i := i) (by omega)
    simp (maxSteps := 1000000) (disch := omega) only [↓sy1, sy2, sy3, readOK, sy5, sy6, Nat.reduceEqDiff, ↓reduceIte, sy7, sy8, sy9, sya, oneOf, syb, syc, Nat.reduceAdd, Nat.reduceMul, syd, sye, syf, syg, syh, reduceCtorEq, F7_L1, e12, e5, e6, e9, e1, hv4.len, Int.ofNat_lt, show i < l.length from by omega, show ((i : Int) < 12) from by omega, decide_true, ha, hld]
    refine call0 (dpages_spec hx) ?_
    rintro pv w5 ⟨hpv, hg5⟩
    have hpl2 := (l[i]'(by omega)).pgs_length
    generalize hpp : (l[i]'(by omega)).pgs = ps at hpv hstep hpl2
    obtain ⟨xs, hps⟩ := hpv.heldx
    have hps0 := hps (G := G00) (κ := 1) (fun b hb => by show 0 ≠ 1; omega)
    have hpvl : ∀ w', lenF w' 0 pv = some (.int .i64 ps.length) := hps0.len
    simp (maxSteps := 1000000) (disch := omega) only [↓sy1, sy2, sy3, readOK, sy5, sy6, Nat.reduceEqDiff, ↓reduceIte, sy7, sy8, sy9, sya, oneOf, syb, syc, Nat.reduceAdd, Nat.reduceMul, syd, sye, syf, syg, syh, reduceCtorEq, e12, e5, e6, e9, e1, hpvl]
    refine loop_rule (fun e w' => ∃ (j : Nat) (ys : List Value), j ≤ ps.length ∧ e 15 = .int .i64 ((ps.length : Int) - 1 - j) ∧ e 13 = pv ∧ e 12 = .int .i64 i ∧ e 5 = .int .i64 n ∧ e 6 = .pointer (some ⟨q, 0, none⟩) ∧ e 9 = .pointer (some ⟨q', 0, none⟩) ∧ e 1 = lv ∧
        w'.ownsRow w5.heap.size 37 2 (e 14) j ys ∧ PgCells w4.heap.size w' ys (ps.reverse.take j) ∧ Grow w5 w') (fun e _ => (intOf (e 15) + 1).toNat)
      ⟨0, [], by omega, by simp [upd, updO, ev], by simp [upd, updO, ev], by simp [upd, updO, ev, e12], by simp [upd, updO, ev, e5], by simp [upd, updO, ev, e6], by simp [upd, updO, ev, e9], by simp [upd, updO, ev, e1], by simpa [upd, updO, ev] using World.ownsRow_nil w5 _ _ _, by simpa using PgCells.nil _ _, Keep.refl _ _⟩ ?_
    rintro e w6 ⟨j, ys, hj, e15, e13, e12, e5, e6, e9, e1, ho6, hc6, hg6⟩
    by_cases hjl : j < ps.length
    · have hpvg := hpv.grow hg6
      obtain ⟨xs6, hr1, hr2, hr3, hr4⟩ := hpvg
      have hps6 := hps0.grow hg6
      obtain ⟨k', hk'⟩ : ∃ k' : Nat, k' + 1 + j = ps.length := ⟨ps.length - 1 - j, by omega⟩
      have hkj : (ps.length : Int) - 1 - (j : Int) = (k' : Int) := by omega
      rw [hkj] at e15
      obtain ⟨hn6, u6, hu6, hub⟩ := hr4 k' (by omega)
      obtain ⟨a6, u7, ha6, hld6, hu7, _⟩ := (show PagesH G00 1 w6 pv ps xs6 from ⟨Has.own hr1, hr2, fun b hb _ => ⟨(World.ownsRow.lt hr1 b hb).2, by show 0 ≠ 1; omega⟩, fun i hi => let ⟨h5, u, h6, h7⟩ := hr4 i hi; ⟨h5, u, h6, Has.own h7, fun b hb _ => ⟨(World.ownsRow.lt h7 b hb).2, by show 0 ≠ 1; omega⟩⟩⟩).at (i := k') (by omega)
      rw [hu6] at hu7; cases hu7
      have huc := (Has.own hub).isCell
      simp (maxSteps := 1000000) (disch := omega) only [↓sy1, sy2, sy3, readOK, sy5, sy6, Nat.reduceEqDiff, ↓reduceIte, sy7, sy8, sy9, sya, oneOf, syb, syc, Nat.reduceAdd, Nat.reduceMul, syd, sye, syf, syg, syh, reduceCtorEq, F7_L0, e15, e13, e12, e5, e6, e9, e1, show ((0 : Int) ≤ (k' : Int)) from by omega, decide_true, ha6, hld6, fill_gen, fill_of2, fillF_p (a := .int .i64 0) (b := .slice none 0 0)]
      have hgap : Grow w6 (w6.alloc (.cells #[.int .i64 ps[k'].1, u6] 37)) := (Keep.refl _ _).alloc _
      refine app_own elemPg (by simp only [upd_at, Nat.reduceEqDiff, reduceIte, ev_tmp, ev_const, List.map_cons, List.map_nil]) (by simp only [upd_at, Nat.reduceEqDiff, reduceIte, ev_tmp, ev_const, List.map_cons, List.map_nil]) (own_keepk ho6 hgap (fun _ _ => id)) Has.newp (m := 1) rfl (by simpa [isCell] using huc) (by omega) (by omega) (by have := hgap.size; have := hg6.size; omega) ?_
      intro out' w7 ho7 hg7
      simp (maxSteps := 1000000) (disch := omega) only [↓sy1, sy2, sy3, readOK, sy5, sy6, Nat.reduceEqDiff, ↓reduceIte, sy7, sy8, sy9, sya, oneOf, syb, syc, Nat.reduceAdd, Nat.reduceMul, syd, sye, syf, syg, syh, reduceCtorEq, e15, e13, e12, e5, e6, e9, e1]
      have hk7 : Keep (fun b => some b = (e 14).ownBlock) w6 w7 := (Keep.grow hgap).trans (Keep.grown hg7)
      have hne : ∀ b, some b = (e 14).ownBlock → ∀ {B' n : Nat} {u : Value} {ys : List Value}, w6.ownsRow B' 5 1 u n ys → u.ownBlock ≠ some b := fun b hb {B' n u ys} hu' hc => own_ne hu' ho6 (by decide) hc hb.symm
      have hnext : ps.reverse.take (j + 1) = ps.reverse.take j ++ [ps[k']] := by
        rw [List.take_succ_eq_append_getElem (by simpa using hjl), List.getElem_reverse]
        congr 3; omega
      refine R_out ⟨⟨j + 1, _, by omega, by congr 1; omega, ho7, ?_, hg6.then hk7 (fun b hb hc => by have := (World.ownsRow.lt ho6 b hc.symm).1; omega)⟩, ?_⟩
      · rw [hnext]
        exact (hc6.keep hk7 hne).snoc (own_keep hub hk7 (fun b hb hc => hne b hc hub hb))
      · simp only [intOf]; omega
    · have hje : j = ps.length := by omega
      subst hje
      have hqf : FreshP w4.heap.size w6 (e 14) ps.reverse := by
        rw [List.take_of_length_le (by simp)] at hc6
        refine ⟨ys, ?_, hc6⟩
        rw [List.length_reverse]
        exact own_basek ho6 hg5.size
      generalize e14 : e 14 = qv at hqf
      obtain ⟨ys', hqs⟩ := hqf.heldx
      obtain ⟨xs', hps'⟩ := (hpv.grow hg6).heldx
      have hx46 : Ext0 G4 w4 (G4.new w4.heap.size) w6 := .newB (hg5.trans hg6)
      have hno : ∀ κ, κ ≠ 0 → ∀ b, w4.heap.size ≤ b → (G4.new w4.heap.size).own b ≠ κ := fun κ hκ b hb h => hκ (by rw [Gh.new_own hb] at h; exact h.symm)
      simp (maxSteps := 1000000) (disch := omega) only [↓sy1, sy2, sy3, readOK, sy5, sy6, Nat.reduceEqDiff, ↓reduceIte, sy7, sy8, sy9, sya, oneOf, syb, syc, Nat.reduceAdd, Nat.reduceMul, syd, sye, syf, syg, syh, reduceCtorEq, F7_L0, e15, e14, e13, e12, e5, e6, e9, e1, show ¬ ((0 : Int) ≤ (ps.length : Int) - 1 - (ps.length : Int)) from by omega, decide_false]
      refine call0 (commit_spec (hl4.ext hx46 id id) (hps' (hno 1 (by omega))) (by omega) (by omega)) ?_
      rintro _ w7 ⟨rfl, G7, hl7, hx7⟩
      simp (maxSteps := 1000000) (disch := omega) only [↓sy1, sy2, sy3, readOK, sy5, sy6, Nat.reduceEqDiff, ↓reduceIte, sy7, sy8, sy9, sya, oneOf, syb, syc, Nat.reduceAdd, Nat.reduceMul, syd, sye, syf, syg, syh, reduceCtorEq, e14, e12, e5, e6, e9, e1]
      refine call0 (commit_spec ((hm4.ext hx46 id id).ext hx7 (by omega) (by omega)) ((hqs (hno 1 (by omega))).ext2 (hqs (hno 2 (by omega))) hx7) (by rw [List.length_reverse]; omega) (by omega)) ?_
      rintro _ w8 ⟨rfl, G8, hm8, hx8⟩
      rw [rev_code]
      rw [rev_done] at hm8
      simp (maxSteps := 1000000) (disch := omega) only [↓sy1, sy2, sy3, readOK, sy5, sy6, Nat.reduceEqDiff, ↓reduceIte, sy7, sy8, sy9, sya, oneOf, syb, syc, Nat.reduceAdd, Nat.reduceMul, syd, sye, syf, syg, syh, reduceCtorEq, e12, e5, e6, e9, e1, decide_true, Bool.not_true]
      refine R_out ⟨⟨i + 1, G8, by omega, rfl, by rw [hstep]; exact hl7.ext hx8 (by omega) (by omega), by rw [hstep]; exact hm8, ((hx4.trans (hx46.mono (fun _ h => h.elim))).trans (hx7.mono (fun _ h => .inl h))).trans (hx8.mono (fun _ h => .inr h))⟩, ?_⟩
      simp only [intOf]; omega
  · generalize commits n (Dsk.zero (n + 12)) (l.take i) = D at hl4 hm4 hops hfirst
    by_cases h1 : i < l.length
    all_goals first
      | (simp (maxSteps := 1000000) (disch := omega) only [↓sy1, sy2, sy3, readOK, sy5, sy6, Nat.reduceEqDiff, ↓reduceIte, sy7, sy8, sy9, sya, oneOf, syb, syc, Nat.reduceAdd, Nat.reduceMul, syd, sye, syf, syg, syh, reduceCtorEq, F7_L1, e12, e5, e6, e9, e1, hv4.len, Int.ofNat_lt, h1, show ¬ ((i : Int) < 12) from by omega, decide_true, decide_false])
      | (simp (maxSteps := 1000000) (disch := omega) only [↓sy1, sy2, sy3, readOK, sy5, sy6, Nat.reduceEqDiff, ↓reduceIte, sy7, sy8, sy9, sya, oneOf, syb, syc, Nat.reduceAdd, Nat.reduceMul, syd, sye, syf, syg, syh, reduceCtorEq, F7_L1, e12, e5, e6, e9, e1, hv4.len, Int.ofNat_lt, h1, decide_true, decide_false])
    all_goals
      refine call0 (ldisk_spec 3 hl4) ?_
      rintro _ w5 ⟨p5, G5, rfl, _, hd5, hx5⟩
      simp (maxSteps := 1000000) (disch := omega) only [↓sy1, sy2, sy3, readOK, sy5, sy6, Nat.reduceEqDiff, ↓reduceIte, sy7, sy8, sy9, sya, oneOf, syb, syc, Nat.reduceAdd, Nat.reduceMul, syd, sye, syf, syg, syh, reduceCtorEq, e6, e9]
      refine call0 (ldisk_spec 4 (hm4.ext hx5 id id)) ?_
      rintro _ w6 ⟨p6, G6, rfl, _, hd6, hx6⟩
      simp (maxSteps := 1000000) (disch := omega) only [↓sy1, sy2, sy3, readOK, sy5, sy6, Nat.reduceEqDiff, ↓reduceIte, sy7, sy8, sy9, sya, oneOf, syb, syc, Nat.reduceAdd, Nat.reduceMul, syd, sye, syf, syg, syh, reduceCtorEq]
      refine call0 (same_spec (hd5.ext hx6 id) hd6) ?_
      rintro _ w7 ⟨rfl, hg7⟩
      simp (maxSteps := 1000000) (disch := omega) only [↓sy1, sy2, sy3, readOK, sy5, sy6, Nat.reduceEqDiff, ↓reduceIte, sy7, sy8, sy9, sya, oneOf, syb, syc, Nat.reduceAdd, Nat.reduceMul, syd, sye, syf, syg, syh, reduceCtorEq, e6, e9, decide_true]
      refine call0 (ldisk_spec 5 (((hl4.ext hx5 id id).ext hx6 id id).grow hg7)) ?_
      rintro _ w8 ⟨p8, G8, rfl, _, hd8, hx8⟩
      simp (maxSteps := 1000000) (disch := omega) only [↓sy1, sy2, sy3, readOK, sy5, sy6, Nat.reduceEqDiff, ↓reduceIte, sy7, sy8, sy9, sya, oneOf, syb, syc, Nat.reduceAdd, Nat.reduceMul, syd, sye, syf, syg, syh, reduceCtorEq]
      refine call0 (ops_spec hd8) ?_
      rintro _ w9 ⟨rfl, rfl⟩
      simp (maxSteps := 1000000) (disch := omega) only [↓sy1, sy2, sy3, readOK, sy5, sy6, Nat.reduceEqDiff, ↓reduceIte, sy7, sy8, sy9, sya, oneOf, syb, syc, Nat.reduceAdd, Nat.reduceMul, syd, sye, syf, syg, syh, reduceCtorEq, e6, e9]
      refine call0 (ldisk_spec 6 ((((hm4.ext hx5 id id).ext hx6 id id).grow hg7).ext hx8 id id)) ?_
      rintro _ w10 ⟨p10, G10, rfl, _, hd10, hx10⟩
      simp (maxSteps := 1000000) (disch := omega) only [↓sy1, sy2, sy3, readOK, sy5, sy6, Nat.reduceEqDiff, ↓reduceIte, sy7, sy8, sy9, sya, oneOf, syb, syc, Nat.reduceAdd, Nat.reduceMul, syd, sye, syf, syg, syh, reduceCtorEq]
      refine call0 (ops_spec hd10) ?_
      rintro _ w11 ⟨rfl, rfl⟩
      simp (maxSteps := 1000000) (disch := omega) only [↓sy1, sy2, sy3, readOK, sy5, sy6, Nat.reduceEqDiff, ↓reduceIte, sy7, sy8, sy9, sya, oneOf, syb, syc, Nat.reduceAdd, Nat.reduceMul, syd, sye, syf, syg, syh, reduceCtorEq, decide_true]
      exact R_out (((((hg4.trans hx5.growG).trans hx6.growG).trans hg7).trans hx8.growG).trans hx10.growG)
end Go.Proofs.Ytneehlkofcdhoaa
