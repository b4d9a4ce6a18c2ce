/- What the small helpers of both sides compute: comparisons, copies. -/
import Derived.Test.YtneehlkofcdhoaaCodeA
import Derived.Test.YtneehlkofcdhoaaBun
namespace Go.Proofs.Ytneehlkofcdhoaa
open Go
set_option linter.unusedSimpArgs false
open Go.RowKit (intOf)
theorem elemB : ElemIs Try.prog 28 5 1 1 (.int .u8 0) := elem_of (by kernel_rfl)
theorem elemR : ElemIs Try.prog 46 28 1 24 (.slice none 0 0) := elem_of (by kernel_rfl)
theorem elemI : ElemIs Try.prog 30 3 1 8 (.int .i64 0) := elem_of (by kernel_rfl)

theorem take_succ_eq {α : Type} {x y : List α} {i : Nat} (hx : i < x.length) (hy : i < y.length) (h : x.take i = y.take i) (he : x[i] = y[i]) : x.take (i + 1) = y.take (i + 1) := by
  rw [List.take_succ_eq_append_getElem hx, List.take_succ_eq_append_getElem hy, h, he]
theorem take_ne {α : Type} {x y : List α} {i : Nat} (hx : i < x.length) (hy : i < y.length) (he : x[i] ≠ y[i]) : x ≠ y := by
  rintro rfl; exact he rfl

theorem sameBytes_spec (a b : Value) (x y : List UInt8) (w : World) (ha : HasB w a x) (hb : HasB w b y) (hl : x.length ≤ 140737488355328) :
    Calls Try.prog 30 #[a, b] w (Ret fun v w' => v = .bool (decide (x = y)) ∧ Grow w w') := by
  apply enter30
  apply R_in
  by_cases hlen : x.length = y.length
  · simp (maxSteps := 600000) (disch := omega) only [F30, ↓sy1, sy2, sy3, readOK, sy5, sy6, Nat.reduceEqDiff, ↓reduceIte, sy7, sy8, sy9, sya, oneOf, syb, syc, Nat.reduceAdd, Nat.reduceMul, syd, sye, syf, syg, syh, reduceCtorEq, ha.lenB, hb.lenB, hlen, decide_true]
    refine loop_rule (fun e w' => ∃ i : Nat, i ≤ y.length ∧ e 5 = .int .i64 i ∧ e 0 = a ∧ e 1 = b ∧ Grow w w' ∧ x.take i = y.take i) (fun e _ => x.length - (intOf (e 5)).toNat) ⟨0, by omega, by simp [upd], by simp [upd], by simp [upd], Keep.refl _ _, by simp⟩ ?_
    rintro e w1 ⟨i, hi, h5, h0, h1, hg, ht⟩
    by_cases hlt : i < y.length
    · have hx : i < x.length := by omega
      obtain ⟨p, hp, hpc, _⟩ := (ha.grow hg).getB hx
      obtain ⟨q, hq, hqc, _⟩ := (hb.grow hg).getB hlt
      simp (maxSteps := 600000) (disch := omega) only [F30_L0, ↓sy1, sy2, sy3, readOK, sy5, sy6, Nat.reduceEqDiff, ↓reduceIte, sy7, sy8, sy9, sya, oneOf, syb, syc, Nat.reduceAdd, Nat.reduceMul, syd, sye, syf, syg, syh, reduceCtorEq, h5, h0, h1, ha.lenB, hb.lenB, hlen, Int.ofNat_lt, hlt, decide_true]
      refine draw30_0 (fun _ => False) ?_
      by_cases he : x[i] = y[i]
      · simp (maxSteps := 600000) (disch := omega) only [PL30_0, ↓sy1, sy2, sy3, readOK, sy5, sy6, Nat.reduceEqDiff, ↓reduceIte, sy7, sy8, sy9, sya, oneOf, syb, syc, Nat.reduceAdd, Nat.reduceMul, syd, sye, syf, syg, syh, reduceCtorEq, h5, h0, h1, hp, hq, hpc, hqc, he, decide_true]
        refine R_out ⟨⟨i + 1, by omega, rfl, hg.drew, take_succ_eq hx hlt ht he⟩, ?_⟩
        simp only [intOf]; omega
      · have hne : ¬ ((x[i].toNat : Int) = y[i].toNat) := fun h => he (UInt8.toNat_inj.1 (by omega))
        simp (maxSteps := 600000) (disch := omega) only [PL30_0, ↓sy1, sy2, sy3, readOK, sy5, sy6, Nat.reduceEqDiff, ↓reduceIte, sy7, sy8, sy9, sya, oneOf, syb, syc, Nat.reduceAdd, Nat.reduceMul, syd, sye, syf, syg, syh, reduceCtorEq, h5, h0, h1, hp, hq, hpc, hqc, hne, decide_false]
        exact R_out ⟨by simp [take_ne hx hlt he], hg.drew⟩
    · simp (maxSteps := 600000) (disch := omega) only [F30_L0, ↓sy1, sy2, sy3, readOK, sy5, sy6, Nat.reduceEqDiff, ↓reduceIte, sy7, sy8, sy9, sya, oneOf, syb, syc, Nat.reduceAdd, Nat.reduceMul, syd, sye, syf, syg, syh, reduceCtorEq, h5, h0, h1, ha.lenB, hb.lenB, hlen, Int.ofNat_lt, hlt, decide_false]
      rw [List.take_of_length_le (by omega), List.take_of_length_le (by omega)] at ht
      exact R_out ⟨by simp [ht], hg⟩
  · have hne : ¬ ((x.length : Int) = y.length) := by omega
    simp (maxSteps := 600000) (disch := omega) only [F30, ↓sy1, sy2, sy3, readOK, sy5, sy6, Nat.reduceEqDiff, ↓reduceIte, sy7, sy8, sy9, sya, oneOf, syb, syc, Nat.reduceAdd, Nat.reduceMul, syd, sye, syf, syg, syh, reduceCtorEq, ha.lenB, hb.lenB, hne, decide_false]
    exact R_out ⟨by simp; rintro rfl; exact hlen rfl, Keep.refl _ _⟩

theorem sameInts_spec (a b : Value) (x y : List Int) (w : World) (ha : HasI w a x) (hb : HasI w b y) (hl : x.length ≤ 140737488355328) :
    Calls Try.prog 62 #[a, b] w (Ret fun v w' => v = .bool (decide (x = y)) ∧ Grow w w') := by
  apply enter62
  apply R_in
  by_cases hlen : x.length = y.length
  · simp (maxSteps := 600000) (disch := omega) only [F62, ↓sy1, sy2, sy3, readOK, sy5, sy6, Nat.reduceEqDiff, ↓reduceIte, sy7, sy8, sy9, sya, oneOf, syb, syc, Nat.reduceAdd, Nat.reduceMul, syd, sye, syf, syg, syh, reduceCtorEq, ha.lenI, hb.lenI, hlen, decide_true]
    refine loop_rule (fun e w' => ∃ i : Nat, i ≤ y.length ∧ e 5 = .int .i64 i ∧ e 0 = a ∧ e 1 = b ∧ Grow w w' ∧ x.take i = y.take i) (fun e _ => x.length - (intOf (e 5)).toNat) ⟨0, by omega, by simp [upd], by simp [upd], by simp [upd], Keep.refl _ _, by simp⟩ ?_
    rintro e w1 ⟨i, hi, h5, h0, h1, hg, ht⟩
    by_cases hlt : i < y.length
    · have hx : i < x.length := by omega
      obtain ⟨p, hp, hpc, _⟩ := (ha.grow hg).getI hx
      obtain ⟨q, hq, hqc, _⟩ := (hb.grow hg).getI hlt
      simp (maxSteps := 600000) (disch := omega) only [F62_L0, ↓sy1, sy2, sy3, readOK, sy5, sy6, Nat.reduceEqDiff, ↓reduceIte, sy7, sy8, sy9, sya, oneOf, syb, syc, Nat.reduceAdd, Nat.reduceMul, syd, sye, syf, syg, syh, reduceCtorEq, h5, h0, h1, ha.lenI, hb.lenI, hlen, Int.ofNat_lt, hlt, decide_true]
      refine draw62_0 (fun _ => False) ?_
      by_cases he : x[i] = y[i]
      · simp (maxSteps := 600000) (disch := omega) only [PL62_0, ↓sy1, sy2, sy3, readOK, sy5, sy6, Nat.reduceEqDiff, ↓reduceIte, sy7, sy8, sy9, sya, oneOf, syb, syc, Nat.reduceAdd, Nat.reduceMul, syd, sye, syf, syg, syh, reduceCtorEq, h5, h0, h1, hp, hq, hpc, hqc, he, decide_true]
        refine R_out ⟨⟨i + 1, by omega, rfl, hg.drew, take_succ_eq hx hlt ht he⟩, ?_⟩
        simp only [intOf]; omega
      · simp (maxSteps := 600000) (disch := omega) only [PL62_0, ↓sy1, sy2, sy3, readOK, sy5, sy6, Nat.reduceEqDiff, ↓reduceIte, sy7, sy8, sy9, sya, oneOf, syb, syc, Nat.reduceAdd, Nat.reduceMul, syd, sye, syf, syg, syh, reduceCtorEq, h5, h0, h1, hp, hq, hpc, hqc, he, decide_false]
        exact R_out ⟨by simp [take_ne hx hlt he], hg.drew⟩
    · simp (maxSteps := 600000) (disch := omega) only [F62_L0, ↓sy1, sy2, sy3, readOK, sy5, sy6, Nat.reduceEqDiff, ↓reduceIte, sy7, sy8, sy9, sya, oneOf, syb, syc, Nat.reduceAdd, Nat.reduceMul, syd, sye, syf, syg, syh, reduceCtorEq, h5, h0, h1, ha.lenI, hb.lenI, hlen, Int.ofNat_lt, hlt, decide_false]
      rw [List.take_of_length_le (by omega), List.take_of_length_le (by omega)] at ht
      exact R_out ⟨by simp [ht], hg⟩
  · have hne : ¬ ((x.length : Int) = y.length) := by omega
    simp (maxSteps := 600000) (disch := omega) only [F62, ↓sy1, sy2, sy3, readOK, sy5, sy6, Nat.reduceEqDiff, ↓reduceIte, sy7, sy8, sy9, sya, oneOf, syb, syc, Nat.reduceAdd, Nat.reduceMul, syd, sye, syf, syg, syh, reduceCtorEq, ha.lenI, hb.lenI, hne, decide_false]
    exact R_out ⟨by simp; rintro rfl; exact hlen rfl, Keep.refl _ _⟩

/-- Rows that are not too long. -/
def Small (ls : List (List UInt8)) : Prop := ∀ l ∈ ls, l.length ≤ 1048576
theorem sameAll_spec (a b : Value) (x y : List (List UInt8)) (w : World) (ha : HasR w a x) (hb : HasR w b y) (hl : x.length ≤ 140737488355328) (hs : Small x) :
    Calls Try.prog 18 #[a, b] w (Ret fun v w' => v = .bool (decide (x = y)) ∧ Grow w w') := by
  apply enter18
  apply R_in
  by_cases hlen : x.length = y.length
  · simp (maxSteps := 600000) (disch := omega) only [F18, ↓sy1, sy2, sy3, readOK, sy5, sy6, Nat.reduceEqDiff, ↓reduceIte, sy7, sy8, sy9, sya, oneOf, syb, syc, Nat.reduceAdd, Nat.reduceMul, syd, sye, syf, syg, syh, reduceCtorEq, ha.len, hb.len, hlen, decide_true]
    refine loop_rule (fun e w' => ∃ i : Nat, i ≤ y.length ∧ e 5 = .int .i64 i ∧ e 0 = a ∧ e 1 = b ∧ Grow w w' ∧ x.take i = y.take i) (fun e _ => x.length - (intOf (e 5)).toNat) ⟨0, by omega, by simp [upd], by simp [upd], by simp [upd], Keep.refl _ _, by simp⟩ ?_
    rintro e w1 ⟨i, hi, h5, h0, h1, hg, ht⟩
    by_cases hlt : i < y.length
    · have hx : i < x.length := by omega
      obtain ⟨p, u, hp, hpc, hu⟩ := (ha.grow hg).get hx
      obtain ⟨q, u', hq, hqc, hu'⟩ := (hb.grow hg).get hlt
      have hsp := sameBytes_spec u u' _ _ w1.drew hu hu' (by have := hs _ (List.getElem_mem hx); omega)
      simp (maxSteps := 600000) (disch := omega) only [F18_L0, ↓sy1, sy2, sy3, readOK, sy5, sy6, Nat.reduceEqDiff, ↓reduceIte, sy7, sy8, sy9, sya, oneOf, syb, syc, Nat.reduceAdd, Nat.reduceMul, syd, sye, syf, syg, syh, reduceCtorEq, h5, h0, h1, ha.len, hb.len, hlen, Int.ofNat_lt, hlt, decide_true]
      refine draw18_0 (fun _ => False) ?_
      simp (maxSteps := 600000) (disch := omega) only [PL18_0, ↓sy1, sy2, sy3, readOK, sy5, sy6, Nat.reduceEqDiff, ↓reduceIte, sy7, sy8, sy9, sya, oneOf, syb, syc, Nat.reduceAdd, Nat.reduceMul, syd, sye, syf, syg, syh, reduceCtorEq, h5, h0, h1, hp, hq, hpc, hqc]
      refine call0 hsp ?_
      rintro v w2 ⟨rfl, hg2⟩
      by_cases he : x[i] = y[i]
      · simp (maxSteps := 600000) (disch := omega) only [↓sy1, sy2, sy3, readOK, sy5, sy6, Nat.reduceEqDiff, ↓reduceIte, sy7, sy8, sy9, sya, oneOf, syb, syc, Nat.reduceAdd, Nat.reduceMul, syd, sye, syf, syg, syh, reduceCtorEq, h5, h0, h1, he, decide_true]
        refine R_out ⟨⟨i + 1, by omega, rfl, hg.drew.trans hg2, take_succ_eq hx hlt ht he⟩, ?_⟩
        simp only [intOf]; omega
      · simp (maxSteps := 600000) (disch := omega) only [↓sy1, sy2, sy3, readOK, sy5, sy6, Nat.reduceEqDiff, ↓reduceIte, sy7, sy8, sy9, sya, oneOf, syb, syc, Nat.reduceAdd, Nat.reduceMul, syd, sye, syf, syg, syh, reduceCtorEq, h5, h0, h1, he, decide_false]
        exact R_out ⟨by simp [take_ne hx hlt he], hg.drew.trans hg2⟩
    · simp (maxSteps := 600000) (disch := omega) only [F18_L0, ↓sy1, sy2, sy3, readOK, sy5, sy6, Nat.reduceEqDiff, ↓reduceIte, sy7, sy8, sy9, sya, oneOf, syb, syc, Nat.reduceAdd, Nat.reduceMul, syd, sye, syf, syg, syh, reduceCtorEq, h5, h0, h1, ha.len, hb.len, hlen, Int.ofNat_lt, hlt, decide_false]
      rw [List.take_of_length_le (by omega), List.take_of_length_le (by omega)] at ht
      exact R_out ⟨by simp [ht], hg⟩
  · have hne : ¬ ((x.length : Int) = y.length) := by omega
    simp (maxSteps := 600000) (disch := omega) only [F18, ↓sy1, sy2, sy3, readOK, sy5, sy6, Nat.reduceEqDiff, ↓reduceIte, sy7, sy8, sy9, sya, oneOf, syb, syc, Nat.reduceAdd, Nat.reduceMul, syd, sye, syf, syg, syh, reduceCtorEq, ha.len, hb.len, hne, decide_false]
    exact R_out ⟨by simp; rintro rfl; exact hlen rfl, Keep.refl _ _⟩

theorem copy_spec (b : Value) (x : List UInt8) (w : World) (hb : HasB w b x) (hl : x.length ≤ 140737488355328) :
    Calls Try.prog 86 #[b] w (Ret fun v w' => w'.ownsRow w.heap.size 5 1 v x.length (bs x) ∧ Grow w w') := by
  apply enter86
  apply R_in
  simp (maxSteps := 600000) (disch := omega) only [F86, ↓sy1, sy2, sy3, readOK, sy5, sy6, Nat.reduceEqDiff, ↓reduceIte, sy7, sy8, sy9, sya, oneOf, syb, syc, Nat.reduceAdd, Nat.reduceMul, syd, sye, syf, syg, syh, reduceCtorEq]
  refine app_own elemB (by simp only [upd_at, Nat.reduceEqDiff, reduceIte, ev_tmp, ev_const, List.map_cons, List.map_nil]) (by simp only [upd_at, Nat.reduceEqDiff, reduceIte, ev_tmp, ev_const, List.map_cons, List.map_nil]) (World.ownsRow_nil w w.heap.size _ 1) hb (m := x.length) (by simp [bs]) (bs_cell x) (by omega) (by omega) (Nat.le_refl _) ?_
  intro v' w' ho hg
  simp (maxSteps := 600000) (disch := omega) only [↓sy1, sy2, sy3, readOK, sy5, sy6, Nat.reduceEqDiff, ↓reduceIte, sy7, sy8, sy9, sya, oneOf, syb, syc, Nat.reduceAdd, Nat.reduceMul, syd, sye, syf, syg, syh, reduceCtorEq]
  exact R_out ⟨by simpa using ho, (Keep.grown hg).mono (fun b _ h => by simp [Value.ownBlock] at h)⟩

theorem bytesClone_spec (b : Value) (x : List UInt8) (w : World) (hb : HasB w b x) (hl : x.length ≤ 140737488355328) :
    Calls Try.prog 77 #[b] w (Ret fun v w' => w'.ownsRow w.heap.size 5 1 v x.length (bs x) ∧ Grow w w') := by
  apply enter77
  apply R_in
  obtain ⟨q, hq, hqe⟩ := hb.isnil
  cases q with
  | true =>
    obtain ⟨h1, rfl⟩ := hqe rfl
    have hx : x = [] := by simpa [bs] using h1
    subst hx
    simp (maxSteps := 600000) (disch := omega) only [F77, ↓sy1, sy2, sy3, readOK, sy5, sy6, Nat.reduceEqDiff, ↓reduceIte, sy7, sy8, sy9, sya, oneOf, syb, syc, Nat.reduceAdd, Nat.reduceMul, syd, sye, syf, syg, syh, reduceCtorEq, hq]
    exact R_out ⟨World.ownsRow_nil w _ _ _, Keep.refl _ _⟩
  | false =>
    simp (maxSteps := 600000) (disch := omega) only [F77, ↓sy1, sy2, sy3, readOK, sy5, sy6, Nat.reduceEqDiff, ↓reduceIte, sy7, sy8, sy9, sya, oneOf, syb, syc, Nat.reduceAdd, Nat.reduceMul, syd, sye, syf, syg, syh, reduceCtorEq, hq, fillV]
    have hg0 : Grow w (w.alloc (.cells #[] 5)) := (Keep.refl _ _).alloc _
    refine app_own elemB (by simp only [upd_at, Nat.reduceEqDiff, reduceIte, ev_tmp, ev_const, List.map_cons, List.map_nil]) (by simp only [upd_at, Nat.reduceEqDiff, reduceIte, ev_tmp, ev_const, List.map_cons, List.map_nil]) (World.ownsRow_made w #[] 0 (Nat.le_refl _) (by simp [maxLen]) (by simp)) (hb.grow hg0) (m := x.length) (by simp [bs]) (bs_cell x) (by omega) (by omega) (by simp) ?_
    intro v' w' ho hg
    simp (maxSteps := 600000) (disch := omega) only [↓sy1, sy2, sy3, readOK, sy5, sy6, Nat.reduceEqDiff, ↓reduceIte, sy7, sy8, sy9, sya, oneOf, syb, syc, Nat.reduceAdd, Nat.reduceMul, syd, sye, syf, syg, syh, reduceCtorEq]
    refine R_out ⟨by simpa using ho, hg0.then (Keep.grown hg) (fun b hb h => ?_)⟩
    simp [Value.ownBlock] at h
    omega

theorem slicesClone_spec (s : Value) (vs : List Value) (w : World) (hs : Has 1 w s vs) (hc : ∀ u ∈ vs, isCell u = true) (hl : vs.length ≤ 4398046511104) :
    Calls Try.prog 79 #[s] w (Ret fun v w' => w'.ownsRow w.heap.size 28 1 v vs.length vs ∧ Grow w w') := by
  apply enter79
  apply R_in
  obtain ⟨q, hq, hqe⟩ := hs.isnil
  cases q with
  | true =>
    obtain ⟨rfl, rfl⟩ := hqe rfl
    simp (maxSteps := 600000) (disch := omega) only [F79, ↓sy1, sy2, sy3, readOK, sy5, sy6, Nat.reduceEqDiff, ↓reduceIte, sy7, sy8, sy9, sya, oneOf, syb, syc, Nat.reduceAdd, Nat.reduceMul, syd, sye, syf, syg, syh, reduceCtorEq, hq]
    exact R_out ⟨World.ownsRow_nil w _ _ _, Keep.refl _ _⟩
  | false =>
    simp (maxSteps := 600000) (disch := omega) only [F79, ↓sy1, sy2, sy3, readOK, sy5, sy6, Nat.reduceEqDiff, ↓reduceIte, sy7, sy8, sy9, sya, oneOf, syb, syc, Nat.reduceAdd, Nat.reduceMul, syd, sye, syf, syg, syh, reduceCtorEq, hq, fillV]
    have hg0 : Grow w (w.alloc (.cells #[] 28)) := (Keep.refl _ _).alloc _
    refine app_own elemR (by simp only [upd_at, Nat.reduceEqDiff, reduceIte, ev_tmp, ev_const, List.map_cons, List.map_nil]) (by simp only [upd_at, Nat.reduceEqDiff, reduceIte, ev_tmp, ev_const, List.map_cons, List.map_nil]) (World.ownsRow_made w #[] 0 (Nat.le_refl _) (by simp [maxLen]) (by simp)) (hs.grow hg0) (m := vs.length) (by simp) hc (by omega) (by omega) (by simp) ?_
    intro v' w' ho hg
    simp (maxSteps := 600000) (disch := omega) only [↓sy1, sy2, sy3, readOK, sy5, sy6, Nat.reduceEqDiff, ↓reduceIte, sy7, sy8, sy9, sya, oneOf, syb, syc, Nat.reduceAdd, Nat.reduceMul, syd, sye, syf, syg, syh, reduceCtorEq]
    refine R_out ⟨by simpa using ho, hg0.then (Keep.grown hg) (fun b hb h => ?_)⟩
    simp [Value.ownBlock] at h
    omega
end Go.Proofs.Ytneehlkofcdhoaa
