/- WalOpens: the walk. -/
import Derived.Test.YtneehlkofcdhoaaDl
namespace Go.Proofs.Ytneehlkofcdhoaa
open Go
set_option linter.unusedSimpArgs false
open Go.RowKit (intOf)
set_option maxHeartbeats 1000000 in
theorem walOpens_walk {w : World} {k : Nat} {lv : Value} {l : List Deed3} (hk : k < 256) (hv : DeedsAt w lv l) :
    Calls Try.prog 4 #[.int .u8 (k : Int), lv] w (Ret fun v w' => v = .bool true ∧ Grow w w') := by
  apply enter4
  apply R_in
  simp (maxSteps := 1000000) (disch := omega) only [F4, ↓sy1, sy2, sy3, readOK, sy5, sy6, Nat.reduceEqDiff, ↓reduceIte, sy7, sy8, sy9, sya, oneOf, syb, syc, Nat.reduceAdd, Nat.reduceMul, syd, sye, syf, syg, syh, reduceCtorEq, show (k : Int).tmod 20 = ((k % 20 : Nat) : Int) from rfl]
  rw [show ((k % 20 : Nat) : Int) + 1 = ((k % 20 + 1 : Nat) : Int) from rfl]
  generalize hsz : k % 20 + 1 = n
  have hn : 1 ≤ n ∧ n ≤ 20 := by omega
  rw [show (n : Int) + 12 = ((n + 12 : Nat) : Int) from rfl]
  refine call0 (lopen_spec (G := G00) (n := n + 12) (size := n) 1 2 (by omega) (by omega) (by omega) hn.1 (by omega)) ?_
  rintro _ w1 ⟨q, r, G1, rfl, hq1, hl1, _, hx1⟩
  simp (maxSteps := 1000000) (disch := omega) only [↓sy1, sy2, sy3, readOK, sy5, sy6, Nat.reduceEqDiff, ↓reduceIte, sy7, sy8, sy9, sya, oneOf, syb, syc, Nat.reduceAdd, Nat.reduceMul, syd, sye, syf, syg, syh, reduceCtorEq]
  refine call0 (live3_spec _) ?_
  rintro _ w2 ⟨rfl, hg2⟩
  have hx2 : Ext (fun c => c = 1) G00 w G1 w2 := (hx1.mono (fun _ h => h.elim)).trans (.grow hg2)
  simp (maxSteps := 1000000) (disch := omega) only [↓sy1, sy2, sy3, readOK, sy5, sy6, Nat.reduceEqDiff, ↓reduceIte, sy7, sy8, sy9, sya, oneOf, syb, syc, Nat.reduceAdd, Nat.reduceMul, syd, sye, syf, syg, syh, reduceCtorEq, Bool.not_true]
  refine loop_rule (fun e w' => ∃ (i : Nat) (G' : Gh), i ≤ min l.length 12 ∧ e 9 = .int .i64 i ∧ e 5 = .int .i64 n ∧ e 6 = .pointer (some ⟨q, 0, none⟩) ∧ e 1 = lv ∧
      LogAt G' 1 w' q n 0 (commits n (Dsk.zero (n + 12)) (l.take i)) ∧ Ext (fun c => c = 1) G00 w G' w') (fun e _ => min l.length 12 - (intOf (e 9)).toNat)
    ⟨0, G1, by omega, by simp [upd, updO, ev], by simp [upd, updO, ev], by simp [upd, updO, ev], by simp [upd, updO, ev], hl1.grow hg2, hx2⟩ ?_
  rintro e w3 ⟨i, G3, hi, e9, e5, e6, e1, hl3, hx3⟩
  have hg3 := hx3.toGrow (by omega)
  have hv3 := hv.grow hg3
  have hops := commits_below (D := Dsk.zero (n + 12)) (size := n) (l := l) (i := i) (k := 12) (by omega) rfl
  have hfirst : (commits n (Dsk.zero (n + 12)) (l.take i)).first.length = n + 12 := by rw [commits_first, zero_len]
  by_cases hlt : i < min l.length 12
  · obtain ⟨a, u, ha, hld, hx⟩ := hv3.at (i := i) (by omega)
    simp (maxSteps := 1000000) (disch := omega) only [F4_L0, ↓sy1, sy2, sy3, readOK, sy5, sy6, Nat.reduceEqDiff, ↓reduceIte, sy7, sy8, sy9, sya, oneOf, syb, syc, Nat.reduceAdd, Nat.reduceMul, syd, sye, syf, syg, syh, reduceCtorEq, e9, e5, e6, e1, hv3.len, Int.ofNat_lt, show i < l.length from by omega, show ((i : Int) < 12) from by omega, decide_true, ha, hld]
    refine call0 (dpages_spec hx) ?_
    rintro pv w4 ⟨hpv, hg4⟩
    have hx4 : Ext0 G3 w3 (G3.new w3.heap.size) w4 := .newB hg4
    obtain ⟨xs, hps⟩ := hpv.held (G := G3.new w3.heap.size) (κ := 1) (fun b hb => by rw [Gh.new_own hb]; omega)
    simp (maxSteps := 1000000) (disch := omega) only [↓sy1, sy2, sy3, readOK, sy5, sy6, Nat.reduceEqDiff, ↓reduceIte, sy7, sy8, sy9, sya, oneOf, syb, syc, Nat.reduceAdd, Nat.reduceMul, syd, sye, syf, syg, syh, reduceCtorEq, e9, e5, e6, e1]
    refine call0 (commit_spec (hl3.ext hx4 id id) hps (pgs_most _) (by omega)) ?_
    rintro _ w5 ⟨rfl, G5, hl5, hx5⟩
    simp (maxSteps := 1000000) (disch := omega) only [↓sy1, sy2, sy3, readOK, sy5, sy6, Nat.reduceEqDiff, ↓reduceIte, sy7, sy8, sy9, sya, oneOf, syb, syc, Nat.reduceAdd, Nat.reduceMul, syd, sye, syf, syg, syh, reduceCtorEq, e9, e5, e6, e1]
    refine R_out ⟨⟨i + 1, G5, by omega, rfl, by rw [commits_take (by omega)]; exact hl5, (hx3.trans (hx4.mono (fun _ h => h.elim))).trans hx5⟩, ?_⟩
    simp only [intOf]; omega
  · have hie : i = min l.length 12 := by omega
    have hcalm := commits_calm (size := n) (l := l.take i) (zero_calm (n := n + 12) (by omega)) (by rw [zero_len]; omega)
    by_cases h1 : i < l.length
    all_goals first
      | (simp (maxSteps := 1000000) (disch := omega) only [↓sy1, sy2, sy3, readOK, sy5, sy6, Nat.reduceEqDiff, ↓reduceIte, sy7, sy8, sy9, sya, oneOf, syb, syc, Nat.reduceAdd, Nat.reduceMul, syd, sye, syf, syg, syh, reduceCtorEq, F4_L0, e9, e5, e6, e1, hv3.len, Int.ofNat_lt, h1, show ¬ ((i : Int) < 12) from by omega, decide_true, decide_false])
      | (simp (maxSteps := 1000000) (disch := omega) only [↓sy1, sy2, sy3, readOK, sy5, sy6, Nat.reduceEqDiff, ↓reduceIte, sy7, sy8, sy9, sya, oneOf, syb, syc, Nat.reduceAdd, Nat.reduceMul, syd, sye, syf, syg, syh, reduceCtorEq, F4_L0, e9, e5, e6, e1, hv3.len, Int.ofNat_lt, h1, decide_true, decide_false])
    all_goals
      refine call0 (ldisk_spec 3 hl3) ?_
      rintro _ w5 ⟨p5, G5, rfl, _, hd5, hx5⟩
      simp (maxSteps := 1000000) (disch := omega) only [↓sy1, sy2, sy3, readOK, sy5, sy6, Nat.reduceEqDiff, ↓reduceIte, sy7, sy8, sy9, sya, oneOf, syb, syc, Nat.reduceAdd, Nat.reduceMul, syd, sye, syf, syg, syh, reduceCtorEq, e5, e6]
      refine call0 (open_spec (size := n) 4 (by omega) hd5 hn.1 (by rw [hfirst]; omega) hcalm) ?_
      rintro _ w6 ⟨q6, G6, rfl, _, hl6, hx6⟩
      simp (maxSteps := 1000000) (disch := omega) only [↓sy1, sy2, sy3, readOK, sy5, sy6, Nat.reduceEqDiff, ↓reduceIte, sy7, sy8, sy9, sya, oneOf, syb, syc, Nat.reduceAdd, Nat.reduceMul, syd, sye, syf, syg, syh, reduceCtorEq, e5, e6, decide_true]
      refine call0 (all_spec ((hl3.ext hx5 id id).ext hx6 id id)) ?_
      rintro v7 w7 ⟨hf7, hg7⟩
      simp (maxSteps := 1000000) (disch := omega) only [↓sy1, sy2, sy3, readOK, sy5, sy6, Nat.reduceEqDiff, ↓reduceIte, sy7, sy8, sy9, sya, oneOf, syb, syc, Nat.reduceAdd, Nat.reduceMul, syd, sye, syf, syg, syh, reduceCtorEq, e5, e6]
      refine call0 (all_spec (hl6.grow hg7)) ?_
      rintro v8 w8 ⟨hf8, hg8⟩
      simp (maxSteps := 1000000) (disch := omega) only [↓sy1, sy2, sy3, readOK, sy5, sy6, Nat.reduceEqDiff, ↓reduceIte, sy7, sy8, sy9, sya, oneOf, syb, syc, Nat.reduceAdd, Nat.reduceMul, syd, sye, syf, syg, syh, reduceCtorEq, e5, e6]
      refine call0 (sameAll_spec v7 v8 _ _ w8 (hf7.grow hg8).has hf8.has (by rw [lpages_length]; omega) (lpages_small hl6)) ?_
      rintro _ w9 ⟨rfl, hg9⟩
      simp (maxSteps := 1000000) (disch := omega) only [↓sy1, sy2, sy3, readOK, sy5, sy6, Nat.reduceEqDiff, ↓reduceIte, sy7, sy8, sy9, sya, oneOf, syb, syc, Nat.reduceAdd, Nat.reduceMul, syd, sye, syf, syg, syh, reduceCtorEq, e5, e6, decide_true]
      refine call0 (came_spec (((hl6.grow hg7).grow hg8).grow hg9)) ?_
      rintro _ w10 ⟨rfl, rfl⟩
      have hz : (((0 : Nat) : Int) = 0) = True := by simp
      simp (maxSteps := 1000000) (disch := omega) only [↓sy1, sy2, sy3, readOK, sy5, sy6, Nat.reduceEqDiff, ↓reduceIte, sy7, sy8, sy9, sya, oneOf, syb, syc, Nat.reduceAdd, Nat.reduceMul, syd, sye, syf, syg, syh, reduceCtorEq, hz, decide_true]
      exact R_out ((hg3.trans hx5.growG).trans (hx6.growG.trans (hg7.trans (hg8.trans hg9))))
end Go.Proofs.Ytneehlkofcdhoaa
