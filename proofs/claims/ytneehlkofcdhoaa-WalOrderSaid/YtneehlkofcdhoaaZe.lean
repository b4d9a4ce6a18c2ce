/- Are all bytes 0? A number in two bytes. -/
import Derived.Test.YtneehlkofcdhoaaLr
namespace Go.Proofs.Ytneehlkofcdhoaa
open Go
set_option linter.unusedSimpArgs false
open Go.RowKit (intOf)
theorem zero1_spec {w : World} {b : UInt8} :
    Calls Try.prog 94 #[.int .u8 (b.toNat : Int)] w (Ret fun v w' => v = .bool (!decide (b = 0)) ∧ w' = w) := by
  apply enter94
  apply R_in
  by_cases h : b = 0
  · subst h
    simp (maxSteps := 600000) (disch := omega) only [F94, ↓sy1, sy2, sy3, readOK, sy5, sy6, Nat.reduceEqDiff, ↓reduceIte, sy7, sy8, sy9, sya, oneOf, syb, syc, Nat.reduceAdd, Nat.reduceMul, syd, sye, syf, syg, syh, reduceCtorEq, show (((0 : UInt8).toNat : Int) = 0) = True from by simp, decide_true]
    exact R_out (by simp)
  · have h' : ¬ ((b.toNat : Int) = 0) := fun hc => h (UInt8.toNat_inj.1 (by simpa using hc))
    simp (maxSteps := 600000) (disch := omega) only [F94, ↓sy1, sy2, sy3, readOK, sy5, sy6, Nat.reduceEqDiff, ↓reduceIte, sy7, sy8, sy9, sya, oneOf, syb, syc, Nat.reduceAdd, Nat.reduceMul, syd, sye, syf, syg, syh, reduceCtorEq, h', decide_false]
    exact R_out (by simp [h])
theorem zindex_spec {w : World} {u : Value} {l : List UInt8} (h : HasB w u l) (hl : l.length ≤ 1048576) :
    Calls Try.prog 107 #[u, .func (.func 94) #[] #[]] w (Ret fun v w' => ((∀ b ∈ l, b = 0) ∧ v = .int .i64 (-1) ∨ (¬ ∀ b ∈ l, b = 0) ∧ ∃ i : Nat, v = .int .i64 i) ∧ w' = w) := by
  have hcl : callable Try.prog 94 = true := by kernel_rfl
  apply enter107
  apply R_in
  simp (maxSteps := 600000) (disch := omega) only [F107, ↓sy1, sy2, sy3, readOK, sy5, sy6, Nat.reduceEqDiff, ↓reduceIte, sy7, sy8, sy9, sya, oneOf, syb, syc, Nat.reduceAdd, Nat.reduceMul, syd, sye, syf, syg, syh, reduceCtorEq, h.lenB]
  refine loop_rule (fun e w' => ∃ i : Nat, i ≤ l.length ∧ e 8 = .int .i64 i ∧ e 7 = .int .i64 l.length ∧ e 0 = u ∧ e 1 = .func (.func 94) #[] #[] ∧ (∀ j (hj : j < l.length), j < i → l[j] = 0) ∧ w' = w) (fun e _ => l.length - (intOf (e 8)).toNat)
    ⟨0, by omega, by simp [upd, updO, ev], by simp [upd, updO, ev], by simp [upd, updO, ev], by simp [upd, updO, ev], fun j _ hj => by omega, rfl⟩ ?_
  rintro e w' ⟨i, hi, e8, e7, e0, e1, hgood, rfl⟩
  by_cases hlt : i < l.length
  · obtain ⟨p, hp, hpc, _⟩ := h.getB hlt
    simp (maxSteps := 600000) (disch := omega) only [F107_L0, ↓sy1, sy2, sy3, readOK, sy5, sy6, Nat.reduceEqDiff, ↓reduceIte, sy7, sy8, sy9, sya, oneOf, syb, syc, Nat.reduceAdd, Nat.reduceMul, syd, sye, syf, syg, syh, reduceCtorEq, e8, e7, e0, e1, Int.ofNat_lt, hlt, decide_true, hp, hpc]
    refine fval_rule hcl (by simp only [upd_at, Nat.reduceEqDiff, reduceIte, ev_tmp, ev_const, List.map_cons, List.map_nil, e1]) (vs := [.int .u8 (l[i].toNat : Int)]) (by simp only [upd_at, Nat.reduceEqDiff, reduceIte, ev_tmp, ev_const, List.map_cons, List.map_nil]) zero1_spec ?_
    rintro _ w2 ⟨rfl, rfl⟩
    by_cases h5 : l[i] = 0
    · simp (maxSteps := 600000) (disch := omega) only [↓sy1, sy2, sy3, readOK, sy5, sy6, Nat.reduceEqDiff, ↓reduceIte, sy7, sy8, sy9, sya, oneOf, syb, syc, Nat.reduceAdd, Nat.reduceMul, syd, sye, syf, syg, syh, reduceCtorEq, e8, e7, e0, e1, h5, decide_true]
      refine R_out ⟨⟨i + 1, by omega, rfl, fun j hj hji => ?_⟩, ?_⟩
      · by_cases hj' : j = i
        · subst hj'; exact h5
        · exact hgood j hj (by omega)
      · simp only [intOf]; omega
    · simp (maxSteps := 600000) (disch := omega) only [↓sy1, sy2, sy3, readOK, sy5, sy6, Nat.reduceEqDiff, ↓reduceIte, sy7, sy8, sy9, sya, oneOf, syb, syc, Nat.reduceAdd, Nat.reduceMul, syd, sye, syf, syg, syh, reduceCtorEq, e8, e7, e0, e1, h5, decide_false]
      exact R_out (.inr ⟨fun hall => h5 (hall _ (List.getElem_mem hlt)), i, rfl⟩)
  · simp (maxSteps := 600000) (disch := omega) only [F107_L0, ↓sy1, sy2, sy3, readOK, sy5, sy6, Nat.reduceEqDiff, ↓reduceIte, sy7, sy8, sy9, sya, oneOf, syb, syc, Nat.reduceAdd, Nat.reduceMul, syd, sye, syf, syg, syh, reduceCtorEq, e8, e7, e0, e1, Int.ofNat_lt, hlt, decide_false]
    refine R_out (.inl fun b hb => ?_)
    obtain ⟨j, hj, rfl⟩ := List.getElem_of_mem hb
    exact hgood j hj (by omega)
theorem zeros_spec {w : World} {u : Value} {l : List UInt8} (h : HasB w u l) (hl : l.length ≤ 1048576) :
    Calls Try.prog 80 #[u] w (Ret fun v w' => ((∀ b ∈ l, b = 0) ∧ v = .bool true ∨ (¬ ∀ b ∈ l, b = 0) ∧ v = .bool false) ∧ w' = w) := by
  apply enter80
  apply R_in
  simp (maxSteps := 600000) (disch := omega) only [F80, ↓sy1, sy2, sy3, readOK, sy5, sy6, Nat.reduceEqDiff, ↓reduceIte, sy7, sy8, sy9, sya, oneOf, syb, syc, Nat.reduceAdd, Nat.reduceMul, syd, sye, syf, syg, syh, reduceCtorEq]
  have hc : Calls Try.prog 93 #[u, .func (.func 94) #[] #[]] w (Ret fun v w' => ((∀ b ∈ l, b = 0) ∧ v = .bool false ∨ (¬ ∀ b ∈ l, b = 0) ∧ v = .bool true) ∧ w' = w) := by
    apply enter93
    apply R_in
    simp (maxSteps := 600000) (disch := omega) only [F93, ↓sy1, sy2, sy3, readOK, sy5, sy6, Nat.reduceEqDiff, ↓reduceIte, sy7, sy8, sy9, sya, oneOf, syb, syc, Nat.reduceAdd, Nat.reduceMul, syd, sye, syf, syg, syh, reduceCtorEq]
    refine call0 (zindex_spec h hl) ?_
    rintro v w1 ⟨⟨hall, rfl⟩ | ⟨hno, i, rfl⟩, rfl⟩
    · simp (maxSteps := 600000) (disch := omega) only [↓sy1, sy2, sy3, readOK, sy5, sy6, Nat.reduceEqDiff, ↓reduceIte, sy7, sy8, sy9, sya, oneOf, syb, syc, Nat.reduceAdd, Nat.reduceMul, syd, sye, syf, syg, syh, reduceCtorEq, show ¬ ((0 : Int) ≤ -1) from by omega, decide_false]
      exact R_out (.inl hall)
    · simp (maxSteps := 600000) (disch := omega) only [↓sy1, sy2, sy3, readOK, sy5, sy6, Nat.reduceEqDiff, ↓reduceIte, sy7, sy8, sy9, sya, oneOf, syb, syc, Nat.reduceAdd, Nat.reduceMul, syd, sye, syf, syg, syh, reduceCtorEq, show ((0 : Int) ≤ (i : Int)) from by omega, decide_true]
      exact R_out (.inr hno)
  refine call0 hc ?_
  rintro v w1 ⟨⟨hall, rfl⟩ | ⟨hno, rfl⟩, rfl⟩
  · simp (maxSteps := 600000) (disch := omega) only [↓sy1, sy2, sy3, readOK, sy5, sy6, Nat.reduceEqDiff, ↓reduceIte, sy7, sy8, sy9, sya, oneOf, syb, syc, Nat.reduceAdd, Nat.reduceMul, syd, sye, syf, syg, syh, reduceCtorEq]
    exact R_out (.inl hall)
  · simp (maxSteps := 600000) (disch := omega) only [↓sy1, sy2, sy3, readOK, sy5, sy6, Nat.reduceEqDiff, ↓reduceIte, sy7, sy8, sy9, sya, oneOf, syb, syc, Nat.reduceAdd, Nat.reduceMul, syd, sye, syf, syg, syh, reduceCtorEq]
    exact R_out (.inr hno)
theorem bin_shl8 {n : Nat} (h : n < 256) : binV .shl (.int .i64 (n : Int)) (.int .u64 8) = some (.int .i64 ((n * 256 : Nat) : Int)) := by
  simp only [binV]
  rw [if_neg (by omega)]
  have h8 : (2 : Int) ^ (min (Int.toNat 8) IntKind.i64.bits) = 256 := by decide
  rw [h8, wrap_i64 (by omega)]
  congr 2
theorem bin_or8 {a b : Nat} (ha : a < 256) (hb : b < 256) : binV .or (.int .i64 ((a * 256 : Nat) : Int)) (.int .i64 (b : Int)) = some (.int .i64 ((a * 256 + b : Nat) : Int)) := by
  simp only [binV, if_true]
  have h1 : (BitVec.ofInt IntKind.i64.bits ((a * 256 : Nat) : Int) ||| BitVec.ofInt IntKind.i64.bits (b : Int)).toNat = a * 256 + b := by
    rw [BitVec.toNat_or, BitVec.ofInt_natCast, BitVec.ofInt_natCast, BitVec.toNat_ofNat, BitVec.toNat_ofNat]
    have hbits : (2 : Nat) ^ IntKind.i64.bits = 18446744073709551616 := by decide
    rw [hbits, Nat.mod_eq_of_lt (by omega), Nat.mod_eq_of_lt (by omega)]
    have := Nat.shiftLeft_add_eq_or_of_lt (i := 8) (show b < 2 ^ 8 by omega) a
    rw [Nat.shiftLeft_eq] at this
    exact this.symm
  rw [h1, wrap_i64 (by omega)]
theorem two_spec {w : World} {u : Value} {l : List UInt8} (h : HasB w u l) (hl : 2 ≤ l.length) :
    Calls Try.prog 81 #[u] w (Ret fun v w' => v = .int .i64 ((l[0].toNat * 256 + l[1].toNat : Nat) : Int) ∧ Grow w w') := by
  apply enter81
  apply R_in
  simp (maxSteps := 600000) (disch := omega) only [F81, ↓sy1, sy2, sy3, readOK, sy5, sy6, Nat.reduceEqDiff, ↓reduceIte, sy7, sy8, sy9, sya, oneOf, syb, syc, Nat.reduceAdd, Nat.reduceMul, syd, sye, syf, syg, syh, reduceCtorEq]
  refine draw81_0 (fun _ => False) ?_
  have hgd : Grow w w.drew := (Keep.refl _ _).drew
  have h1 := h.grow hgd
  generalize w.drew = w1 at hgd h1 ⊢
  obtain ⟨a, ha, hac, _⟩ := h1.getB (i := 0) (by omega)
  obtain ⟨b, hb, hbc, _⟩ := h1.getB (i := 1) (by omega)
  have ha' : iaF 1 u (.int .i64 0) = some (.pointer (some a)) := ha
  have hb' : iaF 1 u (.int .i64 1) = some (.pointer (some b)) := hb
  have hl0 := l[0].toNat_lt
  have hl1 := l[1].toNat_lt
  generalize l[0].toNat = x at hac hl0 ⊢
  generalize l[1].toNat = y at hbc hl1 ⊢
  simp (maxSteps := 600000) (disch := omega) only [PL81_0, ↓sy1, sy2, sy3, readOK, sy5, sy6, Nat.reduceEqDiff, ↓reduceIte, sy7, sy8, sy9, sya, oneOf, syb, syc, Nat.reduceAdd, Nat.reduceMul, syd, sye, syf, syg, syh, reduceCtorEq, ha', hac, hb', hbc, bin_shl8, bin_or8]
  exact R_out hgd
end Go.Proofs.Ytneehlkofcdhoaa
