/- Texts of one claim, put together in their order: what each proves stands ahead of it. -/
import Derived.Test.YtgmodahpcpepjaaMe
import Derived.Test.YtgmodahpcpepjaaMc
import Derived.Carry
import Derived.Deep.Slices
import Derived.Lib.SmallJoins
import Derived.OpenShut
/- BcacheCrashes: the walk. -/
namespace Go.Proofs.Ytgmodahpcpepjaa
open Go
set_option linter.unusedSimpArgs false
open Go.RowKit (intOf)
/-- The group of a cache, as it is handed in. -/
def Csh.grp (c : Csh) : List Pg := c.dirtyL.map fun p => ((p.1 : Int), p.2)
theorem Csh.grp_done {c : Csh} (h : c.Ok) : cdone c.size c.D c.grp = c.commit.D := (Csh.group_code h (List.Perm.refl _)).2
set_option maxHeartbeats 8000000 in
theorem bcacheCrashes_walk {w : World} {k : Nat} {lv cv : Value} {l : List Deed4} {ch : List UInt8} (hk : k < 65536) (hv : HasD4 w lv l) (hcv : HasB w cv ch) :
    Calls Try.prog 8 #[lv, .int .u16 (k : Int), cv] w (Ret fun v w' => v = .bool true ∧ Grow w w') := by
  apply enter8
  apply R_in
  simp (maxSteps := 1000000) (disch := omega) only [↓sy1, sy2, sy3, readOK, sy5, sy6, Nat.reduceEqDiff, ↓reduceIte, sy7, sy8, sy9, sya, oneOf, syb, syc, Nat.reduceAdd, Nat.reduceMul, syd, sye, syf, syg, syh, reduceCtorEq, F8]
  refine call0 (copen_spec G00 (size := 9) (most := 4) 2 3 7 8 (by omega) (by omega) (by omega) (by omega) (by omega) (by omega) (by omega) (by omega) (by omega)) ?_
  rintro _ w1 ⟨p, r, lq, rq, G1, rfl, hp1, hr1, hc1, _, _, _, _, hx1⟩
  simp (maxSteps := 1000000) (disch := omega) only [↓sy1, sy2, sy3, readOK, sy5, sy6, Nat.reduceEqDiff, ↓reduceIte, sy7, sy8, sy9, sya, oneOf, syb, syc, Nat.reduceAdd, Nat.reduceMul, syd, sye, syf, syg, syh, reduceCtorEq]
  refine call0 (live4_spec _) ?_
  rintro _ w2 ⟨rfl, hg2⟩
  have hx02 : Ext (fun c => c = 2 ∨ c = 7) G00 w G1 w2 := (hx1.trans (.grow hg2)).mono (fun _ h => h.elim)
  simp (maxSteps := 1000000) (disch := omega) only [↓sy1, sy2, sy3, readOK, sy5, sy6, Nat.reduceEqDiff, ↓reduceIte, sy7, sy8, sy9, sya, oneOf, syb, syc, Nat.reduceAdd, Nat.reduceMul, syd, sye, syf, syg, syh, reduceCtorEq, Bool.not_true]
  refine loop_rule (fun e w' => ∃ (i : Nat) (c : Csh) (G' : Gh), i ≤ min l.length 40 ∧ e 10 = .int .i64 i ∧ e 7 = .pointer (some ⟨p, 0, none⟩) ∧ e 0 = lv ∧ e 1 = .int .u16 k ∧ e 2 = cv ∧ CacheAt G' 2 7 w' p lq 0 c ∧ c.size = 9 ∧ c.D.first.length = 21 ∧ c.D.ops.length ≤ 206 * i ∧ Ext (fun c => c = 2 ∨ c = 7) G00 w G' w') (fun e _ => min l.length 40 - (intOf (e 10)).toNat)
    ⟨0, _, G1, by omega, by simp [upd, updO, ev], by simp [upd, updO, ev], by simp [upd, updO, ev], by simp [upd, updO, ev], by simp [upd, updO, ev], hc1.grow hg2, rfl, zero_len 21, by show 0 ≤ _; omega, hx02⟩ ?_
  rintro e w4 ⟨i, c, G4, hi, e10, e7, e0, e1, e2, hc4, hsz, hfl, hops, hx4⟩
  have hg4 : Grow w w4 := hx4.toGrow (by omega)
  have hv4 := HasD4.lenD hv
  by_cases hlt : i < min l.length 40
  · have hil : i < l.length := by omega
    obtain ⟨b, o, ha, hat⟩ := HasD4.at hv hil
    generalize l[i] = x at hat
    by_cases hk1 : x.kind = 1
    · simp (maxSteps := 1000000) (disch := omega) only [↓sy1, sy2, sy3, readOK, sy5, sy6, Nat.reduceEqDiff, ↓reduceIte, sy7, sy8, sy9, sya, oneOf, syb, syc, Nat.reduceAdd, Nat.reduceMul, syd, sye, syf, syg, syh, reduceCtorEq, F8_L0, e10, e7, e0, e1, e2, hv4, Int.ofNat_lt, hil, show ((i : Int) < 40) from by omega, decide_true, ha, (hat hg4).1, hk1]
      refine draw8_0 (fun _ => False) ?_
      have hgd : Grow w4 w4.drew := (Keep.refl _ _).drew
      generalize w4.drew = w5 at hgd ⊢
      simp (maxSteps := 1000000) (disch := omega) only [↓sy1, sy2, sy3, readOK, sy5, sy6, Nat.reduceEqDiff, ↓reduceIte, sy7, sy8, sy9, sya, oneOf, syb, syc, Nat.reduceAdd, Nat.reduceMul, syd, sye, syf, syg, syh, reduceCtorEq, PL8_0, e10, e7, e0, e1, e2, ha, (hat (hg4.trans hgd)).2.1, (hat (hg4.trans hgd)).2.2.2.2]
      refine ⟨Keep.refl _ _, ?_⟩
      refine call0 (d4bytes_spec x) ?_
      rintro bv w6 ⟨hbv, hg6⟩
      have hdl := x.data_le
      simp (maxSteps := 1000000) (disch := omega) only [↓sy1, sy2, sy3, readOK, sy5, sy6, Nat.reduceEqDiff, ↓reduceIte, sy7, sy8, sy9, sya, oneOf, syb, syc, Nat.reduceAdd, Nat.reduceMul, syd, sye, syf, syg, syh, reduceCtorEq]
      refine ⟨hg6, ?_⟩
      refine call0 (cwrite_spec (hc4.grow (hgd.trans hg6)) (n := x.page) (Has.own hbv) (by omega)) ?_
      rintro _ w7 ⟨rfl, G7, hc7, hx7⟩
      have hx47 : Ext (fun c => c = 2 ∨ c = 7) G4 w4 G7 w7 := (Ext.grow (hgd.trans hg6)).trans (hx7.mono (fun _ h => .inr h))
      simp (maxSteps := 1000000) (disch := omega) only [↓sy1, sy2, sy3, readOK, sy5, sy6, Nat.reduceEqDiff, ↓reduceIte, sy7, sy8, sy9, sya, oneOf, syb, syc, Nat.reduceAdd, Nat.reduceMul, syd, sye, syf, syg, syh, reduceCtorEq, e10, e7, e0, e1, e2]
      refine R_out ⟨⟨i + 1, _, G7, by omega, rfl, hc7, ?_, ?_, ?_, hx4.trans hx47⟩, by simp only [intOf]; omega⟩
      · split <;> exact hsz
      · split <;> exact hfl
      · split <;> (first | (show c.D.ops.length ≤ _; omega))
    · by_cases hk2 : x.kind = 2
      · simp (maxSteps := 1000000) (disch := omega) only [↓sy1, sy2, sy3, readOK, sy5, sy6, Nat.reduceEqDiff, ↓reduceIte, sy7, sy8, sy9, sya, oneOf, syb, syc, Nat.reduceAdd, Nat.reduceMul, syd, sye, syf, syg, syh, reduceCtorEq, F8_L0, e10, e7, e0, e1, e2, hv4, Int.ofNat_lt, hil, show ((i : Int) < 40) from by omega, decide_true, ha, (hat hg4).1, hk2, show ¬ ((2 : Int) = 1) from by omega, decide_false]
        refine call0 (ccommit_spec hc4 (by omega)) ?_
        rintro _ w5 ⟨rfl, G5, hc5, hx5⟩
        have hco := (Csh.commit_ops hc4.1).1
        simp (maxSteps := 1000000) (disch := omega) only [↓sy1, sy2, sy3, readOK, sy5, sy6, Nat.reduceEqDiff, ↓reduceIte, sy7, sy8, sy9, sya, oneOf, syb, syc, Nat.reduceAdd, Nat.reduceMul, syd, sye, syf, syg, syh, reduceCtorEq, e10, e7, e0, e1, e2]
        exact R_out ⟨⟨i + 1, _, G5, by omega, rfl, hc5, hsz, by rw [Csh.commit_first]; exact hfl, by omega, hx4.trans hx5⟩, by simp only [intOf]; omega⟩
      · simp (maxSteps := 1000000) (disch := omega) only [↓sy1, sy2, sy3, readOK, sy5, sy6, Nat.reduceEqDiff, ↓reduceIte, sy7, sy8, sy9, sya, oneOf, syb, syc, Nat.reduceAdd, Nat.reduceMul, syd, sye, syf, syg, syh, reduceCtorEq, F8_L0, e10, e7, e0, e1, e2, hv4, Int.ofNat_lt, hil, show ((i : Int) < 40) from by omega, decide_true, ha, (hat hg4).1, hk1, hk2, decide_false]
        exact R_out ⟨⟨i + 1, c, G4, by omega, rfl, hc4, hsz, hfl, by omega, hx4⟩, by simp only [intOf]; omega⟩
  · by_cases hil : i < l.length
    all_goals first
      | (simp (maxSteps := 1000000) (disch := omega) only [↓sy1, sy2, sy3, readOK, sy5, sy6, Nat.reduceEqDiff, ↓reduceIte, sy7, sy8, sy9, sya, oneOf, syb, syc, Nat.reduceAdd, Nat.reduceMul, syd, sye, syf, syg, syh, reduceCtorEq, F8_L0, e10, e7, e0, e1, e2, hv4, Int.ofNat_lt, hil, show ¬ ((i : Int) < 40) from by omega, decide_true, decide_false])
      | (simp (maxSteps := 1000000) (disch := omega) only [↓sy1, sy2, sy3, readOK, sy5, sy6, Nat.reduceEqDiff, ↓reduceIte, sy7, sy8, sy9, sya, oneOf, syb, syc, Nat.reduceAdd, Nat.reduceMul, syd, sye, syf, syg, syh, reduceCtorEq, F8_L0, e10, e7, e0, e1, e2, hv4, Int.ofNat_lt, hil, decide_true, decide_false])
    all_goals
      refine call0 (clog_spec hc4) ?_
      rintro _ w4' ⟨rfl, rfl⟩
      simp (maxSteps := 1000000) (disch := omega) only [↓sy1, sy2, sy3, readOK, sy5, sy6, Nat.reduceEqDiff, ↓reduceIte, sy7, sy8, sy9, sya, oneOf, syb, syc, Nat.reduceAdd, Nat.reduceMul, syd, sye, syf, syg, syh, reduceCtorEq]
      refine call0 (all4_spec hc4.2.log) ?_
      rintro va w5 ⟨hfa, hg5⟩
      have hx5 : Ext0 G4 w4' (G4.new w4'.heap.size) w5 := .newB hg5
      have hza : ZeroR (G4.new w4'.heap.size) w5 va (lpages c.size c.D) := hfa.zero (Nat.le_refl _)
      have hc5 := hc4.ext hx5 id id id
      generalize G4.new w4'.heap.size = G5 at hx5 hza hc5
      simp (maxSteps := 1000000) (disch := omega) only [↓sy1, sy2, sy3, readOK, sy5, sy6, Nat.reduceEqDiff, ↓reduceIte, sy7, sy8, sy9, sya, oneOf, syb, syc, Nat.reduceAdd, Nat.reduceMul, syd, sye, syf, syg, syh, reduceCtorEq, e7, e0, e1, e2]
      refine call0 (clog_spec hc5) ?_
      rintro _ w5' ⟨rfl, rfl⟩
      simp (maxSteps := 1000000) (disch := omega) only [↓sy1, sy2, sy3, readOK, sy5, sy6, Nat.reduceEqDiff, ↓reduceIte, sy7, sy8, sy9, sya, oneOf, syb, syc, Nat.reduceAdd, Nat.reduceMul, syd, sye, syf, syg, syh, reduceCtorEq]
      refine call0 (ldisk_spec 11 hc5.2.log) ?_
      rintro _ w6 ⟨p6, G6, rfl, _, hd6, hx6⟩
      have hza6 := hza.ext hx6 id
      have hc6 := hc5.ext hx6 id id id
      simp (maxSteps := 1000000) (disch := omega) only [↓sy1, sy2, sy3, readOK, sy5, sy6, Nat.reduceEqDiff, ↓reduceIte, sy7, sy8, sy9, sya, oneOf, syb, syc, Nat.reduceAdd, Nat.reduceMul, syd, sye, syf, syg, syh, reduceCtorEq]
      refine call0 (ops_spec hd6) ?_
      rintro _ w6' ⟨rfl, rfl⟩
      simp (maxSteps := 1000000) (disch := omega) only [↓sy1, sy2, sy3, readOK, sy5, sy6, Nat.reduceEqDiff, ↓reduceIte, sy7, sy8, sy9, sya, oneOf, syb, syc, Nat.reduceAdd, Nat.reduceMul, syd, sye, syf, syg, syh, reduceCtorEq, e7, e0, e1, e2]
      refine call0 (ccommit_spec hc6 (by omega)) ?_
      rintro _ w7 ⟨rfl, G7, hc7, hx7⟩
      have hza7 := hza6.ext hx7 (by omega)
      simp (maxSteps := 1000000) (disch := omega) only [↓sy1, sy2, sy3, readOK, sy5, sy6, Nat.reduceEqDiff, ↓reduceIte, sy7, sy8, sy9, sya, oneOf, syb, syc, Nat.reduceAdd, Nat.reduceMul, syd, sye, syf, syg, syh, reduceCtorEq, e7, e0, e1, e2]
      refine call0 (clog_spec hc7) ?_
      rintro _ w7' ⟨rfl, rfl⟩
      simp (maxSteps := 1000000) (disch := omega) only [↓sy1, sy2, sy3, readOK, sy5, sy6, Nat.reduceEqDiff, ↓reduceIte, sy7, sy8, sy9, sya, oneOf, syb, syc, Nat.reduceAdd, Nat.reduceMul, syd, sye, syf, syg, syh, reduceCtorEq]
      refine call0 (all4_spec hc7.2.log) ?_
      rintro vb w8 ⟨hfb, hg8⟩
      have hx8 : Ext0 G7 w7' (G7.new w7'.heap.size) w8 := .newB hg8
      have hzb : ZeroR (G7.new w7'.heap.size) w8 vb (lpages c.size c.commit.D) := hfb.zero (Nat.le_refl _)
      have hza8 := hza7.ext hx8 id
      have hc8 := hc7.ext hx8 id id id
      generalize G7.new w7'.heap.size = G8 at hx8 hzb hza8 hc8
      simp (maxSteps := 1000000) (disch := omega) only [↓sy1, sy2, sy3, readOK, sy5, sy6, Nat.reduceEqDiff, ↓reduceIte, sy7, sy8, sy9, sya, oneOf, syb, syc, Nat.reduceAdd, Nat.reduceMul, syd, sye, syf, syg, syh, reduceCtorEq, e7, e0, e1, e2]
      refine call0 (clog_spec hc8) ?_
      rintro _ w8' ⟨rfl, rfl⟩
      simp (maxSteps := 1000000) (disch := omega) only [↓sy1, sy2, sy3, readOK, sy5, sy6, Nat.reduceEqDiff, ↓reduceIte, sy7, sy8, sy9, sya, oneOf, syb, syc, Nat.reduceAdd, Nat.reduceMul, syd, sye, syf, syg, syh, reduceCtorEq]
      refine call0 (ldisk_spec 12 hc8.2.log) ?_
      rintro _ w9 ⟨p9, G9, rfl, _, hd9, hx9⟩
      have hza9 := hza8.ext hx9 id
      have hzb9 := hzb.ext hx9 id
      simp (maxSteps := 1000000) (disch := omega) only [↓sy1, sy2, sy3, readOK, sy5, sy6, Nat.reduceEqDiff, ↓reduceIte, sy7, sy8, sy9, sya, oneOf, syb, syc, Nat.reduceAdd, Nat.reduceMul, syd, sye, syf, syg, syh, reduceCtorEq, e7, e0, e1, e2]
      refine call0 (ops_spec hd9) ?_
      rintro _ w9' ⟨rfl, rfl⟩
      have hcrash := fun k' ks h1 h2 => @crash_commit c.size c.D c.grp k' ks hc4.1.flat hc4.1.calm hc4.1.ok (by rw [hsz, hfl]; omega) h1 h2
      rw [Csh.grp_done hc4.1] at hcrash
      have hlpa := take_pg c.size c.D
      have hlpb := take_pg c.size c.commit.D
      have hsa := lpages_small hc4.2.log
      have hsb : Small (lpages c.size c.commit.D) := lpages_small hc7.2.log
      have hla := lpages_length c.size c.D
      have hlb := lpages_length c.size c.commit.D
      have hf9 : c.commit.D.first.length = 21 := by rw [Csh.commit_first]; exact hfl
      have hco := Csh.commit_ops hc4.1
      have hd9 : DiskAt G9 12 w9' p9 c.commit.D := hd9
      rw [show c.commit.size = c.size from rfl] at *
      rw [hsz] at *
      generalize c.commit.D = E at *
      generalize c.D = D at *
      have hrem : (k : Int).tmod ((E.ops.length : Int) - (D.ops.length : Int) + 1) = ((k % (E.ops.length - D.ops.length + 1) : Nat) : Int) := by
        rw [show (E.ops.length : Int) - (D.ops.length : Int) + 1 = ((E.ops.length - D.ops.length + 1 : Nat) : Int) from by omega]; rfl
      have hmod := Nat.mod_lt k (show 0 < E.ops.length - D.ops.length + 1 by omega)
      obtain ⟨at_, hat⟩ : ∃ a : Nat, a = D.ops.length + k % (E.ops.length - D.ops.length + 1) := ⟨_, rfl⟩
      have hadd : (D.ops.length : Int) + ((k % (E.ops.length - D.ops.length + 1) : Nat) : Int) = (at_ : Int) := by omega
      have hxw9 : Ext (fun c => c = 2 ∨ c = 7) G00 w G9 w9' := ((hx4.trans ((hx5.trans hx6).mono (fun _ h => h.elim))).trans hx7).trans ((hx8.trans hx9).mono (fun _ h => h.elim))
      simp (maxSteps := 1000000) (disch := omega) only [↓sy1, sy2, sy3, readOK, sy5, sy6, Nat.reduceEqDiff, ↓reduceIte, sy7, sy8, sy9, sya, oneOf, syb, syc, Nat.reduceAdd, Nat.reduceMul, syd, sye, syf, syg, syh, reduceCtorEq, e7, e0, e1, e2, hrem, hadd]
      refine call0 (cut_spec 13 14 (by omega) hd9 (k := at_) (by omega)) ?_
      rintro _ w10 ⟨q10, G10, rfl, _, hd10, hx10⟩
      have hza10 := hza9.ext hx10 (by omega)
      have hzb10 := hzb9.ext hx10 (by omega)
      have hxw10 : Ext (fun c => c = 2 ∨ c = 7 ∨ c = 13 ∨ c = 14) G00 w G10 w10 := (hxw9.mono (by omega)).trans (hx10.mono (by omega))
      have hg10 := hxw10.toGrow (by omega)
      have hc10 := hcv.grow hg10
      have hcr := hcrash at_
      have hok10 := hd10.ok
      have hlen10 : (E.cut at_).first.length = 21 := hf9
      have hwl := (E.cut at_).waiting_length
      have hwr := (E.cut at_).writes_length
      have hol := hd10.2.1
      simp (maxSteps := 1000000) (disch := omega) only [↓sy1, sy2, sy3, readOK, sy5, sy6, Nat.reduceEqDiff, ↓reduceIte, sy7, sy8, sy9, sya, oneOf, syb, syc, Nat.reduceAdd, Nat.reduceMul, syd, sye, syf, syg, syh, reduceCtorEq, e7, e0, e1, e2]
      generalize E.cut at_ = X at *
      refine call0 (waiting_spec hd10) ?_
      rintro _ w11 ⟨av, b, rfl, hav, hb, _, hg11⟩
      have hlenB : ∀ w', lenF w' 0 b = some (.int .i64 X.waiting.length) := fun w' => by rw [(Has.own hb).lenI]; simp [hwr]
      have hlenC : ∀ w', lenF w' 0 cv = some (.int .i64 ch.length) := fun w' => by rw [hcv.lenB]
      simp (maxSteps := 1000000) (disch := omega) only [↓sy1, sy2, sy3, readOK, sy5, sy6, Nat.reduceEqDiff, ↓reduceIte, sy7, sy8, sy9, sya, oneOf, syb, syc, Nat.reduceAdd, Nat.reduceMul, syd, sye, syf, syg, syh, reduceCtorEq, e7, e0, e1, e2]
      refine loop_rule (fun e w' => ∃ (i : Nat) (out : Value) (ks : List Int), i ≤ X.waiting.length ∧ e 21 = .int .i64 i ∧ e 20 = out ∧ e 19 = b ∧ e 16 = .pointer (some ⟨q10, 0, none⟩) ∧ e 14 = vb ∧ e 11 = va ∧ e 13 = .int .i64 0 ∧ e 2 = cv ∧ ks.length = i ∧ w'.ownsRow w11.heap.size 3 1 out i (ints ks) ∧
          (∀ j (h : j < ks.length) (h' : j < X.waiting.length), 0 ≤ ks[j] ∧ ks[j] ≤ ((X.wait X.waiting[j]).length : Int)) ∧ Grow w11 w') (fun e _ => X.waiting.length - (intOf (e 21)).toNat)
        ⟨0, .slice none 0 0, [], by omega, by simp [upd, updO, ev], by simp [upd, updO, ev], by simp [upd, updO, ev], by simp [upd, updO, ev], by simp [upd, updO, ev], by simp [upd, updO, ev], by simp [upd, updO, ev], by simp [upd, updO, ev, e2], rfl, World.ownsRow_nil w11 _ _ _, fun j h => by simp at h, Keep.refl _ _⟩ ?_
      clear e10 e7 e0 e1 e2
      rintro e w12 ⟨j, out, ks, hj, e21, e20, e19, e16, e14, e11, e13, e2, hkl, hown, hgood, hg12⟩
      have hszw := (hg11.trans hg12).size
      have hg112 := hg11.trans hg12
      by_cases hlt : j < X.waiting.length
      · have stepG : ∀ kk : Int, 0 ≤ kk → kk ≤ ((X.wait X.waiting[j]).length : Int) → ∀ i (h : i < (ks ++ [kk]).length) (h' : i < X.waiting.length), 0 ≤ (ks ++ [kk])[i] ∧ (ks ++ [kk])[i] ≤ ((X.wait X.waiting[i]).length : Int) := by
          intro kk h1 h2 i h h'
          by_cases hi : i < ks.length
          · rw [List.getElem_append_left hi]; exact hgood i hi h'
          · have hji : i = j := by simp at h; omega
            subst hji
            rw [List.getElem_append_right (by omega)]; simp; omega
        by_cases hch : j < ch.length
        · simp (maxSteps := 1000000) (disch := omega) only [↓sy1, sy2, sy3, readOK, sy5, sy6, Nat.reduceEqDiff, ↓reduceIte, sy7, sy8, sy9, sya, oneOf, syb, syc, Nat.reduceAdd, Nat.reduceMul, syd, sye, syf, syg, syh, reduceCtorEq, F8_L1, e21, e20, e19, e16, e14, e11, e13, e2, hlenB, hlenC, Int.ofNat_lt, hlt, hch, decide_true]
          refine draw8_1 (fun _ => False) ?_
          have hgd : Grow w12 w12.drew := (Keep.refl _ _).drew
          have hc5 := ((hc10.grow hg11).grow hg12).grow hgd
          have hb5 := ((Has.own hb).grow hg12).grow hgd
          have hown5 := own_grow hown hgd
          have hg5 := hg12.trans hgd
          generalize w12.drew = w13 at hc5 hb5 hown5 hg5 ⊢
          obtain ⟨ac, hac, hacc, _⟩ := hc5.getB hch
          obtain ⟨ab, hab, habc, _⟩ := hb5.getI (l := zs X.writes) (i := j) (by simp; omega)
          have hcb := ch[j].toNat_lt
          have hwi : (zs X.writes)[j]'(by simp; omega) = (((X.wait X.waiting[j]).length : Nat) : Int) := by simp [X.writes_get (i := j) (by omega) hlt]
          rw [hwi] at habc
          have hcap := X.wait_length X.waiting[j]
          have hsg := stepG (((ch[j].toNat % ((X.wait X.waiting[j]).length + 1) : Nat)) : Int) (by omega) (by have := Nat.mod_lt ch[j].toNat (show 0 < (X.wait X.waiting[j]).length + 1 by omega); omega)
          generalize ch[j].toNat = cc at hacc hcb hsg
          generalize (X.wait X.waiting[j]).length = ww at habc hcap hsg
          have hmod : (cc : Int).tmod ((ww : Int) + 1) = ((cc % (ww + 1) : Nat) : Int) := rfl
          simp (maxSteps := 1000000) (disch := omega) only [↓sy1, sy2, sy3, readOK, sy5, sy6, Nat.reduceEqDiff, ↓reduceIte, sy7, sy8, sy9, sya, oneOf, syb, syc, Nat.reduceAdd, Nat.reduceMul, syd, sye, syf, syg, syh, reduceCtorEq, PL8_1, e21, e20, e19, e16, e14, e11, e13, e2, hac, hacc, hab, habc, hmod, fill_one, oneF_int]
          generalize cc % (ww + 1) = kk at hsg ⊢
          have hga : Grow w13 (w13.alloc (.cells #[.int .i64 (kk : Int)] 3)) := (Keep.refl _ _).alloc _
          refine app_own elemI (by simp only [upd_at, Nat.reduceEqDiff, reduceIte, ev_tmp, ev_const, List.map_cons, List.map_nil, e20]) (by simp only [upd_at, Nat.reduceEqDiff, reduceIte, ev_tmp, ev_const, List.map_cons, List.map_nil]) (own_grow hown5 hga) Has.new1 (m := 1) rfl (by simp [isCell]) (by omega) (by omega) (by have := hg5.size; have := hg11.size; simp; omega) ?_
          intro out' w14 ho14 hg14
          simp (maxSteps := 1000000) (disch := omega) only [↓sy1, sy2, sy3, readOK, sy5, sy6, Nat.reduceEqDiff, ↓reduceIte, sy7, sy8, sy9, sya, oneOf, syb, syc, Nat.reduceAdd, Nat.reduceMul, syd, sye, syf, syg, syh, reduceCtorEq, e21, e20, e19, e16, e14, e11, e13, e2]
          refine R_out ⟨⟨j + 1, out', ks ++ [(kk : Int)], by omega, rfl, rfl, by simp [hkl], by simpa [ints] using ho14, hsg, ?_⟩, ?_⟩
          · exact (hg5.trans hga).then (Keep.grown hg14) (fun b hb h => by
              obtain ⟨hbb, _⟩ := World.ownsRow.lt hown5 b h.symm; omega)
          · simp only [intOf]; omega
        · have hsg := stepG 0 (by omega) (by omega)
          simp (maxSteps := 1000000) (disch := omega) only [↓sy1, sy2, sy3, readOK, sy5, sy6, Nat.reduceEqDiff, ↓reduceIte, sy7, sy8, sy9, sya, oneOf, syb, syc, Nat.reduceAdd, Nat.reduceMul, syd, sye, syf, syg, syh, reduceCtorEq, F8_L1, e21, e20, e19, e16, e14, e11, e13, e2, hlenB, hlenC, Int.ofNat_lt, hlt, hch, decide_true, decide_false, fill_one, oneF_int]
          have hga : Grow w12 (w12.alloc (.cells #[.int .i64 0] 3)) := (Keep.refl _ _).alloc _
          refine app_own elemI (by simp only [upd_at, Nat.reduceEqDiff, reduceIte, ev_tmp, ev_const, List.map_cons, List.map_nil, e20]) (by simp only [upd_at, Nat.reduceEqDiff, reduceIte, ev_tmp, ev_const, List.map_cons, List.map_nil]) (own_grow hown hga) Has.new1 (m := 1) rfl (by simp [isCell]) (by omega) (by omega) (by have := hg12.size; simp; omega) ?_
          intro out' w14 ho14 hg14
          simp (maxSteps := 1000000) (disch := omega) only [↓sy1, sy2, sy3, readOK, sy5, sy6, Nat.reduceEqDiff, ↓reduceIte, sy7, sy8, sy9, sya, oneOf, syb, syc, Nat.reduceAdd, Nat.reduceMul, syd, sye, syf, syg, syh, reduceCtorEq, e21, e20, e19, e16, e14, e11, e13, e2]
          refine R_out ⟨⟨j + 1, out', ks ++ [0], by omega, rfl, rfl, by simp [hkl], by simpa [ints] using ho14, hsg, ?_⟩, ?_⟩
          · exact (hg12.trans hga).then (Keep.grown hg14) (fun b hb h => by
              obtain ⟨hbb, _⟩ := World.ownsRow.lt hown b h.symm; omega)
          · simp only [intOf]; omega
      · have hje : j = X.waiting.length := by omega
        have hmay : X.may ks := ⟨by omega, fun i h h' => hgood i h h'⟩
        simp (maxSteps := 1000000) (disch := omega) only [↓sy1, sy2, sy3, readOK, sy5, sy6, Nat.reduceEqDiff, ↓reduceIte, sy7, sy8, sy9, sya, oneOf, syb, syc, Nat.reduceAdd, Nat.reduceMul, syd, sye, syf, syg, syh, reduceCtorEq, F8_L1, e21, e20, e19, e16, e14, e11, e13, e2, hlenB, Int.ofNat_lt, hlt, decide_false]
        refine call0 (crash_spec 15 (hd10.grow hg112) (Has.own hown) (by have := X.waiting_length; omega)) ?_
        rintro v w13 ⟨hgoodc, _⟩
        obtain ⟨p13, G13, rfl, hp13, hd13, hx13⟩ := hgoodc hmay
        have hx1013 : Ext0 G10 w10 G13 w13 := (Ext.grow hg112).trans hx13
        have hza13 := hza10.ext hx1013 id
        have hzb13 := hzb10.ext hx1013 id
        have hres := hcr ks (by omega) (by omega) hok10 hmay
        have hokX := hd13.ok
        have hlenX : (X.crash (ks.map Int.toNat)).first.length = 21 := by
          rw [← Dsk.image_length, Dsk.crash_length]; exact hlen10
        have hopsX : (X.crash (ks.map Int.toNat)).ops.length = 0 := rfl
        generalize X.crash (ks.map Int.toNat) = Z at hres hokX hlenX hopsX hd13
        obtain ⟨P, hP, hcase⟩ : ∃ P, Tells 9 Z.image P ∧ (P = pg 9 D ∨ P = pg 9 E) := by
          rcases hres with ⟨h1, _⟩ | ⟨h1, _⟩
          · exact ⟨_, h1, .inl rfl⟩
          · exact ⟨_, h1, .inr rfl⟩
        obtain ⟨ns, Y, _, _, hop, _, hlY⟩ := tells_opened hokX (by rw [hlenX]; omega) hP
        have hpd : lpages 9 Y = lpages 9 D ∨ lpages 9 Y = lpages 9 E := by
          rw [hlY]
          rcases hcase with rfl | rfl
          · exact .inl hlpa
          · exact .inr hlpb
        simp (maxSteps := 1000000) (disch := omega) only [↓sy1, sy2, sy3, readOK, sy5, sy6, Nat.reduceEqDiff, ↓reduceIte, sy7, sy8, sy9, sya, oneOf, syb, syc, Nat.reduceAdd, Nat.reduceMul, syd, sye, syf, syg, syh, reduceCtorEq, e21, e20, e19, e16, e14, e11, e13, e2]
        refine call0 (openg_spec (size := 9) 16 (by omega) hd13 (by omega) (by rw [hlenX]; omega) (by omega)) ?_
        rintro _ w14 hor
        rw [hop] at hor
        obtain ⟨q14, G14, rfl, _, hl14, hx14⟩ := hor
        have hza14 := hza13.ext hx14 (by omega)
        have hzb14 := hzb13.ext hx14 (by omega)
        simp (maxSteps := 1000000) (disch := omega) only [↓sy1, sy2, sy3, readOK, sy5, sy6, Nat.reduceEqDiff, ↓reduceIte, sy7, sy8, sy9, sya, oneOf, syb, syc, Nat.reduceAdd, Nat.reduceMul, syd, sye, syf, syg, syh, reduceCtorEq, e21, e20, e19, e16, e14, e11, e13, e2, decide_true, Bool.not_true]
        refine call0 (all4_spec hl14) ?_
        rintro vn w15 ⟨hfn, hg15⟩
        have hsn := lpages_small hl14
        have hln := lpages_length 9 Y
        have hxa := hza14.has.grow hg15
        have hxb := hzb14.has.grow hg15
        have hxn := hfn.has
        have hgw : Grow w w15 := ((hxw10.mono (κ' := fun c => c = 2 ∨ c = 7 ∨ c = 13 ∨ c = 14 ∨ c = 16) (by omega)).trans ((hx1013.mono (fun _ h => h.elim)).trans ((hx14.mono (by omega)).trans (.grow hg15)))).toGrow (by omega)
        simp (maxSteps := 1000000) (disch := omega) only [↓sy1, sy2, sy3, readOK, sy5, sy6, Nat.reduceEqDiff, ↓reduceIte, sy7, sy8, sy9, sya, oneOf, syb, syc, Nat.reduceAdd, Nat.reduceMul, syd, sye, syf, syg, syh, reduceCtorEq, e14, e11, e13, e2]
        refine call0 (sameAll_spec vn va _ _ _ hxn hxa (by omega) hsn) ?_
        rintro _ w16 ⟨rfl, hg16⟩
        by_cases hna : lpages 9 Y = lpages 9 D
        · simp (maxSteps := 1000000) (disch := omega) only [↓sy1, sy2, sy3, readOK, sy5, sy6, Nat.reduceEqDiff, ↓reduceIte, sy7, sy8, sy9, sya, oneOf, syb, syc, Nat.reduceAdd, Nat.reduceMul, syd, sye, syf, syg, syh, reduceCtorEq, e14, e11, hna, decide_true]
          exact R_out (hgw.trans hg16)
        · have hnb : lpages 9 Y = lpages 9 E := hpd.resolve_left hna
          simp (maxSteps := 1000000) (disch := omega) only [↓sy1, sy2, sy3, readOK, sy5, sy6, Nat.reduceEqDiff, ↓reduceIte, sy7, sy8, sy9, sya, oneOf, syb, syc, Nat.reduceAdd, Nat.reduceMul, syd, sye, syf, syg, syh, reduceCtorEq, e14, e11, hna, decide_false]
          refine call0 (sameAll_spec vn vb _ _ _ (hxn.grow hg16) (hxb.grow hg16) (by omega) hsn) ?_
          rintro _ w17 ⟨rfl, hg17⟩
          simp (maxSteps := 1000000) (disch := omega) only [↓sy1, sy2, sy3, readOK, sy5, sy6, Nat.reduceEqDiff, ↓reduceIte, sy7, sy8, sy9, sya, oneOf, syb, syc, Nat.reduceAdd, Nat.reduceMul, syd, sye, syf, syg, syh, reduceCtorEq, hnb, decide_true]
          exact R_out ((hgw.trans hg16).trans hg17)
end Go.Proofs.Ytgmodahpcpepjaa

/- Arguments opened: rows of numbers, of bytes. What is only read reads as it did. -/
namespace Go.Proofs.Ytgmodahpcpepjaa
open Go
set_option linter.unusedSimpArgs false
open Go.RowKit Go.ChangeShapes Go.WideShapes Go.Deep Go.Joins
theorem okSlice {P : Program} {w : World} {r : Reach} {base : Nat} {t e : TypeId} {v : Value} (ht : P.underlying t = some (.slice e)) (h : Value.okWide P w r base t v) :
    v = .slice none 0 0 ∨ ∃ b o len cap, v = .slice (some ⟨b, o, none⟩) len cap := by
  simp only [Value.okWide, ht, Cell.okWide] at h
  cases v with
  | slice a len cap =>
    cases a with
    | none =>
      simp only [Cell.ok, ht] at h
      cases len <;> cases cap <;> simp at h
      exact .inl rfl
    | some a =>
      simp only [Cell.ok, ht] at h
      obtain ⟨_, _, _, hs, _⟩ := h
      obtain ⟨b, o, s⟩ := a
      cases hs
      exact .inr ⟨b, o, len, cap, rfl⟩
  | _ => simp [Cell.ok, ht] at h
section
variable {H : Type} {enc : TypeId × Value → H} {w : World} {base : Nat} {spare : Nat → Bool} {held : Bool}
theorem cellsBool : Try.prog.cellsOf 4 = 1 := by kernel_rfl
theorem cellsInt : Try.prog.cellsOf 3 = 1 := by kernel_rfl
theorem cellsU8 : Try.prog.cellsOf 5 = 1 := by kernel_rfl
set_option maxRecDepth 100000 in
/-- A row of numbers. -/
theorem open_intsL {v : Value} {d : DataW H} {p : List MemPlace} {W : World} {b0 : Nat} (hv : Value.okWide Try.prog W .any b0 45 v) (h : DataW.Trod enc Try.prog W 0 (fun _ => true) true 45 v d p) :
    ∃ l : List Int, HasI W v l ∧ l.length ≤ 9223372036854775807 ∧ ∀ z ∈ l, -9223372036854775808 ≤ z ∧ z ≤ 9223372036854775807 := by
  obtain ⟨fuel, hf⟩ := h
  rcases okSlice Try.underlying45 hv with rfl | ⟨b, o, len, cap, rfl⟩
  · exact ⟨[], Has.nil 1 W, by simp, by simp⟩
  rcases open_ints Try.underlying45 Try.underlying3 cellsInt hf with ⟨hcs, _⟩ | ⟨a, len', cap', zs, hcs, _, hl, hm, hz, hx, hcell, hwz⟩
  · simp [Value.cells] at hcs
  simp only [Value.cells, List.cons.injEq, Value.slice.injEq, and_true, Option.some.injEq] at hcs
  obtain ⟨rfl, rfl, rfl⟩ := hcs
  simp only [if_true] at hz
  have hlen : (zs.take len).length = len := by rw [List.length_take]; omega
  refine ⟨zs.take len, .inl ⟨b, o, len, cap, rfl, by simp only [ints, List.length_map, hlen]; omega, hl, fun j u hj => ?_⟩, ?_, fun z hz' => ?_⟩
  · simp only [ints, List.getElem?_map, Option.map_eq_some_iff] at hj
    obtain ⟨z, hj, rfl⟩ := hj
    obtain ⟨hjl, hj⟩ := List.getElem?_eq_some_iff.1 hj
    rw [hlen] at hjl
    have := hcell j (by omega)
    rw [add_lit] at this
    rw [this, ← hj, List.getElem_take, List.getD_eq_getElem?_getD, List.getElem?_eq_getElem (by omega)]; rfl
  · rw [hlen]; have : maxLen = 9223372036854775807 := rfl; omega
  · have := bounds_i64 (hwz z (List.mem_of_mem_take hz')); omega
set_option maxRecDepth 100000 in
/-- A row of bytes. -/
theorem open_bytesL {v : Value} {d : DataW H} {p : List MemPlace} {W : World} {b0 : Nat} (hv : Value.okWide Try.prog W .any b0 29 v) (h : DataW.Trod enc Try.prog W 0 (fun _ => true) true 29 v d p) :
    ∃ l : List UInt8, HasB W v l := by
  obtain ⟨fuel, hf⟩ := h
  rcases okSlice Try.underlying29 hv with rfl | ⟨b, o, len, cap, rfl⟩
  · exact ⟨[], Has.nil 1 W⟩
  rcases open_ints Try.underlying29 Try.underlying5 cellsU8 hf with ⟨hcs, _⟩ | ⟨a, len', cap', zs, hcs, _, hl, hm, hz, hx, hcell, hwz⟩
  · simp [Value.cells] at hcs
  simp only [Value.cells, List.cons.injEq, Value.slice.injEq, and_true, Option.some.injEq] at hcs
  obtain ⟨rfl, rfl, rfl⟩ := hcs
  simp only [if_true] at hz
  have hlen : (zs.take len).length = len := by rw [List.length_take]; omega
  refine ⟨(zs.take len).map fun z => UInt8.ofNat z.toNat, .inl ⟨b, o, len, cap, rfl, by simp [bs]; omega, hl, fun j u hj => ?_⟩⟩
  simp only [bs, List.map_map, List.getElem?_map, Option.map_eq_some_iff, Function.comp] at hj
  obtain ⟨z, hj, rfl⟩ := hj
  obtain ⟨hjl, hj⟩ := List.getElem?_eq_some_iff.1 hj
  rw [hlen] at hjl
  have := hcell j (by omega)
  rw [add_lit] at this
  have hbz := bounds_u8 (hwz z (by rw [← hj, List.getElem_take]; exact List.getElem_mem _))
  rw [this, ← hj, List.getElem_take, List.getD_eq_getElem?_getD, List.getElem?_eq_getElem (by omega)]
  rw [List.getElem_take] at hj
  have hz' : ((UInt8.ofNat z.toNat).toNat : Int) = z := by rw [UInt8.toNat_ofNat']; omega
  rw [hj, hz']; rfl
theorem u8_nat {n : Int} (h : (Lit.int .u8 n).wf = true) : ∃ k : Nat, k < 256 ∧ n = (k : Int) := by
  have := bounds_u8 h
  exact ⟨n.toNat, by omega, by omega⟩
/-- What is only read reads as it did. -/
theorem argsStay {P : Program} {W W' : World} (hl : laidOutB P = true) (hb : Below W.heap.size W W') : ∀ {ts : List TypeId} {vs : List Value} {ds : List (DataW H)} {ps : List MemPlace}, (ts.all fun t => P.readableRec t && decide (t < P.types.size)) = true →
    DataW.TrodAll enc P W 0 (fun _ => true) true ts vs ds ps → (∀ x ∈ ps, x.block < W.heap.size) → DataW.TrodAll enc P W' 0 (fun b => decide (b < W.heap.size)) true ts vs ds ps
  | [], _, _, _, _, h, _ => by
    obtain ⟨rfl, rfl, rfl⟩ := trodAll_nil h
    exact trodAll_mk0
  | t :: ts, _, _, _, ht, h, hlt => by
    obtain ⟨v, vs, d, ds, p, q, rfl, rfl, rfl, h0, h1⟩ := trodAll_cons h
    simp only [List.all_cons, Bool.and_eq_true, decide_eq_true_eq] at ht
    exact trodAll_cons_mk (Below.trod hl ht.1.1 ht.1.2 h0 hb (fun x hx => hlt x (by simp [hx]))) (argsStay hl hb ht.2 h1 (fun x hx => hlt x (by simp [hx])))
end
end Go.Proofs.Ytgmodahpcpepjaa

/- Arguments opened: rows of deeds; a deed (law04). -/
namespace Go.Proofs.Ytgmodahpcpepjaa
open Go
set_option linter.unusedSimpArgs false
open Go.RowKit Go.ChangeShapes Go.WideShapes Go.Deep Go.Joins
section
variable {H : Type} {enc : TypeId × Value → H} {w : World} {base : Nat} {spare : Nat → Bool} {held : Bool}
theorem cellsDeed4 : Try.prog.cellsOf 23 = 4 := by kernel_rfl
set_option maxRecDepth 100000 in
theorem deed4_fields {fuel : Nat} {cs : List Value} {x : DataW H × List MemPlace} (h : DataW.trod enc Try.prog w base spare held fuel 23 cs = some x) : ∃ y : Deed4, cs = y.cells := by
  obtain ⟨y0, y1, y2, y3, n, _, hl, h0, h1, h2, h3⟩ := trod_struct4 Try.underlying23 h
  rw [cellsDeed4] at hl
  match cs, hl with
  | [c0, c1, c2, c3], _ =>
    simp only [cellsBool, cellsInt, cellsU8, List.drop_zero, List.drop_succ_cons, List.take_succ_cons, List.take_zero] at h0 h1 h2 h3
    obtain ⟨a0, e0, _, w0⟩ := DataW.trod_int Try.underlying3 h0
    obtain ⟨a1, e1, _, w1⟩ := DataW.trod_int Try.underlying3 h1
    obtain ⟨a2, e2, _, wf⟩ := DataW.trod_int Try.underlying5 h2
    obtain ⟨a3, e3, _⟩ := DataW.trod_bool Try.underlying4 h3
    cases e0; cases e1; cases e2; cases e3
    have hb := bounds_u8 wf
    refine ⟨⟨a0, a1, UInt8.ofNat a2.toNat, a3⟩, ?_⟩
    have : ((UInt8.ofNat a2.toNat).toNat : Int) = a2 := by
      rw [UInt8.toNat_ofNat']; omega
    simp [Deed4.cells]; omega
set_option maxRecDepth 100000 in
theorem open_deeds4 {v : Value} {d : DataW H} {p : List MemPlace} {W : World} {b0 : Nat} (hv : Value.okWide Try.prog W .any b0 40 v) (h : DataW.Trod enc Try.prog W 0 (fun _ => true) true 40 v d p) :
    ∃ l : List Deed4, HasD4 W v l := by
  have hC := cellsDeed4
  obtain ⟨fuel, hf⟩ := h
  rcases okSlice Try.underlying40 hv with rfl | ⟨b, o, len, cap, rfl⟩
  · exact ⟨[], Has.nil 4 W⟩
  rcases open_slice Try.underlying40 hf with ⟨hcs, _⟩ | ⟨a, len', cap', m, n, D, Pl, hcs, hb, hl, hm, hmm, hx, hi⟩
  · simp [Value.cells] at hcs
  simp only [Value.cells, List.cons.injEq, Value.slice.injEq, and_true, Option.some.injEq] at hcs
  obtain ⟨rfl, rfl, rfl⟩ := hcs
  simp only [if_true] at hmm
  have key : ∀ k, k ≤ len → ∃ l : List Deed4, l.length = k ∧ ∀ j u, (l.flatMap Deed4.cells)[j]? = some u → W.cell? ⟨b, o + j, none⟩ = some u := by
    intro k
    induction k with
    | zero => intro _; exact ⟨[], rfl, fun j u hj => by simp at hj⟩
    | succ k ih =>
      intro hk
      obtain ⟨l, hll, hlc⟩ := ih (by omega)
      obtain ⟨cs', hc, ht'⟩ := hi k (by omega)
      obtain ⟨x, rfl⟩ := deed4_fields ht'
      obtain ⟨_, _, hat⟩ := World.cells?_some hc
      rw [hC] at hat
      refine ⟨l ++ [x], by simp [hll], fun j u hj => ?_⟩
      rw [List.flatMap_append, List.flatMap_cons, List.flatMap_nil, List.append_nil] at hj
      by_cases hjl : j < (l.flatMap Deed4.cells).length
      · rw [List.getElem?_append_left hjl] at hj; exact hlc j u hj
      · rw [List.getElem?_append_right (by omega)] at hj
        rw [deeds4_length, hll] at hj hjl
        have hj4 : j - k * 4 < 4 := by
          have := (List.getElem?_eq_some_iff.1 hj).1
          simpa [Deed4.cells] using this
        have := hat (j - k * 4) hj4
        rw [add_lit, add_lit, hj] at this
        rw [← this]
        congr 2; omega
  obtain ⟨l, hll, hlc⟩ := key len (Nat.le_refl _)
  exact ⟨l, .inl ⟨b, o, len, cap, rfl, by rw [deeds4_length, hll], hl, hlc⟩⟩
set_option maxRecDepth 100000 in
theorem open_deed4 {v : Value} {d : DataW H} {p : List MemPlace} {W : World} {b0 : Nat} (hv : Value.okWide Try.prog W .any b0 23 v) (h : DataW.Trod enc Try.prog W 0 (fun _ => true) true 23 v d p) :
    ∃ x : Deed4, v = x.val := by
  obtain ⟨cs, rfl, hsz⟩ := okWide_struct Try.underlying23 hv
  obtain ⟨fuel, hf⟩ := h
  have hf' : DataW.trod enc Try.prog W 0 (fun _ => true) true fuel 23 cs.toList = some (d, p) := by simpa [Value.cells] using hf
  obtain ⟨y, hy⟩ := deed4_fields hf'
  refine ⟨y, ?_⟩
  rw [Deed4.val, show cs = y.cells.toArray by rw [← hy]]
  rfl
end
end Go.Proofs.Ytgmodahpcpepjaa

/- Arguments opened: rows of groups of pages. -/
namespace Go.Proofs.Ytgmodahpcpepjaa
open Go
set_option linter.unusedSimpArgs false
open Go.RowKit Go.ChangeShapes Go.WideShapes Go.Deep Go.Joins
section
variable {H : Type} {enc : TypeId × Value → H} {w : World} {base : Nat} {spare : Nat → Bool} {held : Bool}
theorem spot_none {a : Addr} {v : Value} (h : w.cell? a = some v) : a.spot = none := by
  obtain ⟨b, o, s⟩ := a
  cases s with
  | none => rfl
  | some s =>
    simp only [World.cell?] at h
    split at h <;> simp at h
theorem open_intsX {c : Value} {fuel : Nat} {x : DataW H × List MemPlace} (h : DataW.trod enc Try.prog w base (fun _ => true) held fuel 45 [c] = some x) : ∃ l : List Int, HasX w c l := by
  rcases open_ints Try.underlying45 Try.underlying3 cellsInt h with ⟨hcs, _⟩ | ⟨a, len, cap, zs, hcs, _, hl, hm, hz, hx, hcell, hwz⟩
  · cases hcs; exact ⟨[], .inl (Has.nil 1 w)⟩
  · cases hcs
    simp only [if_true] at hz
    by_cases h0 : cap = 0
    · subst h0
      obtain rfl : len = 0 := by omega
      exact ⟨[], .inr ⟨rfl, a, rfl⟩⟩
    · have hs := hcell 0 (by omega)
      rw [show a.add 0 = a from if_pos rfl] at hs
      have hsp := spot_none hs
      obtain ⟨b, o, s⟩ := a
      cases hsp
      have hlen : (zs.take len).length = len := by rw [List.length_take]; omega
      refine ⟨zs.take len, .inl (.inl ⟨b, o, len, cap, rfl, by simp only [ints, List.length_map, hlen]; omega, hl, fun j u hj => ?_⟩)⟩
      simp only [ints, List.getElem?_map, Option.map_eq_some_iff] at hj
      obtain ⟨z, hj, rfl⟩ := hj
      obtain ⟨hjl, hj⟩ := List.getElem?_eq_some_iff.1 hj
      rw [hlen] at hjl
      have := hcell j (by omega)
      rw [add_lit] at this
      rw [this, ← hj, List.getElem_take, List.getD_eq_getElem?_getD, List.getElem?_eq_getElem (by omega)]; rfl
theorem cellsInts : Try.prog.cellsOf 45 = 1 := by kernel_rfl
end
end Go.Proofs.Ytgmodahpcpepjaa

/- Arguments opened: a number of sixteen bits; two of them. -/
namespace Go.Proofs.Ytgmodahpcpepjaa
open Go
set_option linter.unusedSimpArgs false
open Go.RowKit Go.ChangeShapes Go.WideShapes Go.Deep Go.Joins
theorem u16_nat {n : Int} (h : (Lit.int .u16 n).wf = true) : ∃ k : Nat, k < 65536 ∧ n = (k : Int) := by
  have := bounds_u16 h
  exact ⟨n.toNat, by omega, by omega⟩
section
variable {H : Type} {enc : TypeId × Value → H}
theorem cellsU16 : Try.prog.cellsOf 55 = 1 := by kernel_rfl
end
end Go.Proofs.Ytgmodahpcpepjaa
