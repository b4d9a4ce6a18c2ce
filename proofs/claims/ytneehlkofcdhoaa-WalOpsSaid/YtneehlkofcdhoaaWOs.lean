/- WalOps: the walk. -/
import Derived.Test.YtneehlkofcdhoaaDl
namespace Go.Proofs.Ytneehlkofcdhoaa
open Go
set_option linter.unusedSimpArgs false
open Go.RowKit (intOf)
set_option maxHeartbeats 2000000 in
theorem walOps_walk {w : World} {k : Nat} {lv : Value} {l : List Deed3} (hk : k < 256) (hv : DeedsAt w lv l) :
    Calls Try.prog 6 #[.int .u8 (k : Int), lv] w (Ret fun v w' => v = .bool true ∧ Grow w w') := by
  apply enter6
  apply R_in
  simp (maxSteps := 1000000) (disch := omega) only [↓sy1, sy2, sy3, readOK, sy5, sy6, Nat.reduceEqDiff, ↓reduceIte, sy7, sy8, sy9, sya, oneOf, syb, syc, Nat.reduceAdd, Nat.reduceMul, syd, sye, syf, syg, syh, reduceCtorEq, F6, show (k : Int).tmod 20 = ((k % 20 : Nat) : Int) from rfl]
  rw [show ((k % 20 : Nat) : Int) + 1 = ((k % 20 + 1 : Nat) : Int) from rfl]
  generalize hsz : k % 20 + 1 = n
  have hn : 1 ≤ n ∧ n ≤ 20 := by omega
  rw [show (n : Int) + 12 = ((n + 12 : Nat) : Int) from rfl]
  refine call0 (lopen_spec (G := G00) (n := n + 12) (size := n) 1 2 (by omega) (by omega) (by omega) hn.1 (by omega)) ?_
  rintro _ w1 ⟨q, r, G1, rfl, hq1, hl1, _, hx1⟩
  simp (maxSteps := 1000000) (disch := omega) only [↓sy1, sy2, sy3, readOK, sy5, sy6, Nat.reduceEqDiff, ↓reduceIte, sy7, sy8, sy9, sya, oneOf, syb, syc, Nat.reduceAdd, Nat.reduceMul, syd, sye, syf, syg, syh, reduceCtorEq]
  refine call0 (live3_spec _) ?_
  rintro _ w2 ⟨rfl, hg2⟩
  have hx2 : Ext (fun c => c = 1) G00 w G1 w2 := (hx1.mono (fun _ h => h.elim)).trans (.grow hg2)
  simp (maxSteps := 1000000) (disch := omega) only [↓sy1, sy2, sy3, readOK, sy5, sy6, Nat.reduceEqDiff, ↓reduceIte, sy7, sy8, sy9, sya, oneOf, syb, syc, Nat.reduceAdd, Nat.reduceMul, syd, sye, syf, syg, syh, reduceCtorEq, Bool.not_true]
  refine loop_rule (fun e w' => ∃ (i : Nat) (G' : Gh), i ≤ min l.length 12 ∧ e 9 = .int .i64 i ∧ e 5 = .int .i64 n ∧ e 6 = .pointer (some ⟨q, 0, none⟩) ∧ e 1 = lv ∧
      LogAt G' 1 w' q n 0 (commits n (Dsk.zero (n + 12)) (l.take i)) ∧ Ext (fun c => c = 1) G00 w G' w') (fun e _ => min l.length 12 - (intOf (e 9)).toNat)
    ⟨0, G1, by omega, by simp [upd, updO, ev], by simp [upd, updO, ev], by simp [upd, updO, ev], by simp [upd, updO, ev], hl1.grow hg2, hx2⟩ ?_
  rintro e w3 ⟨i, G3, hi, e9, e5, e6, e1, hl3, hx3⟩
  have hg3 := hx3.toGrow (by omega)
  have hv3 := hv.grow hg3
  have hops := commits_below (D := Dsk.zero (n + 12)) (size := n) (l := l) (i := i) (k := 12) (by omega) rfl
  have hfirst : (commits n (Dsk.zero (n + 12)) (l.take i)).first.length = n + 12 := by rw [commits_first, zero_len]
  by_cases hlt : i < min l.length 12
  · have hstep := commits_take (size := n) (D := Dsk.zero (n + 12)) (l := l) (i := i) (by omega)
    have hflat := commits_flat (size := n) (l := l.take (i + 1)) (zero_flat (n + 12))
    rw [hstep] at hflat
    generalize commits n (Dsk.zero (n + 12)) (l.take i) = D at hl3 hops hfirst hstep hflat
    have hmore := cdone_more n D (l[i]'(by omega)).pgs
    simp (maxSteps := 1000000) (disch := omega) only [↓sy1, sy2, sy3, readOK, sy5, sy6, Nat.reduceEqDiff, ↓reduceIte, sy7, sy8, sy9, sya, oneOf, syb, syc, Nat.reduceAdd, Nat.reduceMul, syd, sye, syf, syg, syh, reduceCtorEq, F6_L0, e9, e5, e6, e1, hv3.len, Int.ofNat_lt, show i < l.length from by omega, show ((i : Int) < 12) from by omega, decide_true]
    refine call0 (ldisk_spec 3 hl3) ?_
    rintro _ w4 ⟨p4, G4, rfl, _, hd4, hx4⟩
    have hv4 := hv3.grow hx4.growG
    obtain ⟨a, u, ha, hld, hx⟩ := hv4.at (i := i) (by omega)
    simp (maxSteps := 1000000) (disch := omega) only [↓sy1, sy2, sy3, readOK, sy5, sy6, Nat.reduceEqDiff, ↓reduceIte, sy7, sy8, sy9, sya, oneOf, syb, syc, Nat.reduceAdd, Nat.reduceMul, syd, sye, syf, syg, syh, reduceCtorEq]
    refine call0 (ops_spec hd4) ?_
    rintro _ w5 ⟨rfl, rfl⟩
    simp (maxSteps := 1000000) (disch := omega) only [↓sy1, sy2, sy3, readOK, sy5, sy6, Nat.reduceEqDiff, ↓reduceIte, sy7, sy8, sy9, sya, oneOf, syb, syc, Nat.reduceAdd, Nat.reduceMul, syd, sye, syf, syg, syh, reduceCtorEq, e9, e5, e6, e1, ha, hld]
    refine call0 (dpages_spec hx) ?_
    rintro pv w6 ⟨hpv, hg6⟩
    have hx6 : Ext0 G4 w5 (G4.new w5.heap.size) w6 := .newB hg6
    obtain ⟨xs, hps⟩ := hpv.held (G := G4.new w5.heap.size) (κ := 1) (fun b hb => by rw [Gh.new_own hb]; omega)
    simp (maxSteps := 1000000) (disch := omega) only [↓sy1, sy2, sy3, readOK, sy5, sy6, Nat.reduceEqDiff, ↓reduceIte, sy7, sy8, sy9, sya, oneOf, syb, syc, Nat.reduceAdd, Nat.reduceMul, syd, sye, syf, syg, syh, reduceCtorEq, e9, e5, e6, e1]
    refine call0 (commit_spec ((hl3.ext hx4 id id).ext hx6 id id) hps (pgs_most _) (by omega)) ?_
    rintro _ w7 ⟨rfl, G7, hl7, hx7⟩
    have hx37 : Ext (fun c => c = 1) G3 w3 G7 w7 := ((hx4.trans hx6).mono (fun _ h => h.elim)).trans hx7
    have hpl2 := (l[i]'(by omega)).pgs_length
    generalize hps' : (l[i]'(by omega)).pgs = ps at hps hl7 hmore hflat hstep hpl2 ⊢
    generalize hE : cdone n D ps = E at hl7 hmore hflat hstep ⊢
    generalize hcc : ccode D.first.length n ps = c at hmore ⊢
    have hpl : ∀ w', lenF w' 0 pv = some (.int .i64 ps.length) := hps.len
    have hwl : E.waiting = [] := Flat.waiting hflat
    have hnext : ∀ {G8 w8}, Ext0 G7 w7 G8 w8 → ∃ (i_1 : Nat) (G' : Gh), i_1 ≤ min l.length 12 ∧ (Value.int .i64 ((i : Int) + 1)) = .int .i64 i_1 ∧ LogAt G' 1 w8 q n 0 (commits n (Dsk.zero (n + 12)) (l.take i_1)) ∧ Ext (fun c => c = 1) G00 w G' w8 := fun {G8 w8} hx8 =>
      ⟨i + 1, G8, by omega, rfl, by rw [hstep]; exact hl7.ext hx8 id id, (hx3.trans hx37).trans (hx8.mono (fun _ h => h.elim))⟩
    have hcase : ((¬ c = 0 ∨ c = 0 ∧ ps.length = 0) ∧ E.ops.length = D.ops.length) ∨ (c = 0 ∧ 0 < ps.length ∧ E.ops.length = D.ops.length + (2 * ps.length + 6)) := by
      by_cases h0 : c = 0 ∧ ps ≠ []
      · rw [if_pos h0] at hmore; exact .inr ⟨h0.1, List.length_pos_iff.2 h0.2, hmore⟩
      · rw [if_neg h0] at hmore
        refine .inl ⟨?_, hmore⟩
        by_cases h1 : c = 0
        · exact .inr ⟨h1, by simpa [h1] using h0⟩
        · exact .inl h1
    rcases hcase with ⟨h0 | ⟨h0, h1⟩, h2⟩ | ⟨h0, h1, h2⟩
    all_goals first
      | (simp (maxSteps := 1000000) (disch := omega) only [↓sy1, sy2, sy3, readOK, sy5, sy6, Nat.reduceEqDiff, ↓reduceIte, sy7, sy8, sy9, sya, oneOf, syb, syc, Nat.reduceAdd, Nat.reduceMul, syd, sye, syf, syg, syh, reduceCtorEq, e9, e5, e6, e1, h0, hpl, show ((0 : Int) < (ps.length : Int)) from by omega, decide_true])
      | (simp (maxSteps := 1000000) (disch := omega) only [↓sy1, sy2, sy3, readOK, sy5, sy6, Nat.reduceEqDiff, ↓reduceIte, sy7, sy8, sy9, sya, oneOf, syb, syc, Nat.reduceAdd, Nat.reduceMul, syd, sye, syf, syg, syh, reduceCtorEq, e9, e5, e6, e1, h0, hpl, h1, show ¬ ((0 : Int) < ((0 : Nat) : Int)) from by omega, decide_true, decide_false])
      | (simp (maxSteps := 1000000) (disch := omega) only [↓sy1, sy2, sy3, readOK, sy5, sy6, Nat.reduceEqDiff, ↓reduceIte, sy7, sy8, sy9, sya, oneOf, syb, syc, Nat.reduceAdd, Nat.reduceMul, syd, sye, syf, syg, syh, reduceCtorEq, e9, e5, e6, e1, h0, hpl, decide_false])
    all_goals
      refine call0 (ldisk_spec 3 hl7) ?_
      rintro _ w8 ⟨p8, G8, rfl, _, hd8, hx8⟩
      simp (maxSteps := 1000000) (disch := omega) only [↓sy1, sy2, sy3, readOK, sy5, sy6, Nat.reduceEqDiff, ↓reduceIte, sy7, sy8, sy9, sya, oneOf, syb, syc, Nat.reduceAdd, Nat.reduceMul, syd, sye, syf, syg, syh, reduceCtorEq]
      refine call0 (waiting_spec hd8) ?_
      rintro _ w9 ⟨wa, wb, rfl, hwa, _, _, hg9⟩
      have hlen9 : ∀ w', lenF w' 0 wa = some (.int .i64 0) := fun w' => by rw [(Has.own hwa).lenI, hwl]; rfl
      simp (maxSteps := 1000000) (disch := omega) only [↓sy1, sy2, sy3, readOK, sy5, sy6, Nat.reduceEqDiff, ↓reduceIte, sy7, sy8, sy9, sya, oneOf, syb, syc, Nat.reduceAdd, Nat.reduceMul, syd, sye, syf, syg, syh, reduceCtorEq, e9, e5, e6, e1]
      refine call0 (ldisk_spec 3 ((hl7.ext hx8 id id).grow hg9)) ?_
      rintro _ w10 ⟨p10, G10, rfl, _, hd10, hx10⟩
      simp (maxSteps := 1000000) (disch := omega) only [↓sy1, sy2, sy3, readOK, sy5, sy6, Nat.reduceEqDiff, ↓reduceIte, sy7, sy8, sy9, sya, oneOf, syb, syc, Nat.reduceAdd, Nat.reduceMul, syd, sye, syf, syg, syh, reduceCtorEq]
      refine call0 (ops_spec hd10) ?_
      rintro _ w11 ⟨rfl, rfl⟩
      have hx710 := (hx8.trans (.grow hg9)).trans hx10
      have hz : ((0 : Int) = 0) = True := by simp
      first
        | (have hf : ((E.ops.length : Int) = (D.ops.length : Int) + (2 * (ps.length : Int) + 6)) = True := by simp; omega
           simp (maxSteps := 1000000) (disch := omega) only [↓sy1, sy2, sy3, readOK, sy5, sy6, Nat.reduceEqDiff, ↓reduceIte, sy7, sy8, sy9, sya, oneOf, syb, syc, Nat.reduceAdd, Nat.reduceMul, syd, sye, syf, syg, syh, reduceCtorEq, e9, e5, e6, e1, hf, hlen9, hz, decide_true, Bool.not_true])
        | (have hf : ((E.ops.length : Int) = (D.ops.length : Int) + 0) = True := by simp; omega
           have hf2 : ((E.ops.length : Int) = (D.ops.length : Int)) = True := by simp; omega
           simp (maxSteps := 1000000) (disch := omega) only [↓sy1, sy2, sy3, readOK, sy5, sy6, Nat.reduceEqDiff, ↓reduceIte, sy7, sy8, sy9, sya, oneOf, syb, syc, Nat.reduceAdd, Nat.reduceMul, syd, sye, syf, syg, syh, reduceCtorEq, e9, e5, e6, e1, hf, hf2, Int.add_zero, hlen9, hz, decide_true, Bool.not_true])
      refine R_out ⟨hnext hx710, ?_⟩
      simp only [intOf]; omega
  · by_cases h1 : i < l.length
    all_goals first
      | (simp (maxSteps := 1000000) (disch := omega) only [↓sy1, sy2, sy3, readOK, sy5, sy6, Nat.reduceEqDiff, ↓reduceIte, sy7, sy8, sy9, sya, oneOf, syb, syc, Nat.reduceAdd, Nat.reduceMul, syd, sye, syf, syg, syh, reduceCtorEq, F6_L0, e9, e5, e6, e1, hv3.len, Int.ofNat_lt, h1, show ¬ ((i : Int) < 12) from by omega, decide_true, decide_false])
      | (simp (maxSteps := 1000000) (disch := omega) only [↓sy1, sy2, sy3, readOK, sy5, sy6, Nat.reduceEqDiff, ↓reduceIte, sy7, sy8, sy9, sya, oneOf, syb, syc, Nat.reduceAdd, Nat.reduceMul, syd, sye, syf, syg, syh, reduceCtorEq, F6_L0, e9, e5, e6, e1, hv3.len, Int.ofNat_lt, h1, decide_true, decide_false])
    all_goals exact R_out hg3
end Go.Proofs.Ytneehlkofcdhoaa
