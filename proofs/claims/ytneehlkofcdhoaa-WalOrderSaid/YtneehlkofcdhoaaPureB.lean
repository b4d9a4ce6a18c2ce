/- What the small helpers compute, the second part: copies of rows, a deed's bytes. -/
import Derived.Test.YtneehlkofcdhoaaPure
namespace Go.Proofs.Ytneehlkofcdhoaa
open Go
set_option linter.unusedSimpArgs false
open Go.RowKit (intOf)
theorem copied_spec (s : Value) (ls : List (List UInt8)) (w : World) (hs : HasR w s ls) (hl : ls.length ≤ 1048576) (hsm : Small ls) :
    Calls Try.prog 89 #[s] w (Ret fun v w' => FreshR w.heap.size 28 5 w' v ls ∧ Grow w w') := by
  apply enter89
  apply R_in
  simp (maxSteps := 600000) (disch := omega) only [F89, ↓sy1, sy2, sy3, readOK, sy5, sy6, Nat.reduceEqDiff, ↓reduceIte, sy7, sy8, sy9, sya, oneOf, syb, syc, Nat.reduceAdd, Nat.reduceMul, syd, sye, syf, syg, syh, reduceCtorEq, hs.len]
  refine mk_rule elemR (kx := .i64) (ky := .i64) (a := ls.length) (c := ls.length) (by simp only [upd_at, Nat.reduceEqDiff, reduceIte, ev_tmp, ev_const, List.map_cons, List.map_nil]) (by simp only [upd_at, Nat.reduceEqDiff, reduceIte, ev_tmp, ev_const, List.map_cons, List.map_nil]) (by omega) (by omega) (by omega) (by omega) rfl ?_
  have hg0 : Grow w (w.alloc (.cells (Array.replicate (ls.length : Int).toNat (.slice none 0 0)) 28)) := (Keep.refl _ _).alloc _
  have ho0 := own_made w w.heap.size (Nat.le_refl _) 28 (ls.length : Int).toNat (by simp; omega) (.slice none 0 0)
  generalize w.alloc (.cells (Array.replicate (ls.length : Int).toNat (.slice none 0 0)) 28) = w0 at hg0 ho0 ⊢
  simp only [Int.toNat_natCast] at ho0 ⊢
  simp (maxSteps := 600000) (disch := omega) only [↓sy1, sy2, sy3, readOK, sy5, sy6, Nat.reduceEqDiff, ↓reduceIte, sy7, sy8, sy9, sya, oneOf, syb, syc, Nat.reduceAdd, Nat.reduceMul, syd, sye, syf, syg, syh, reduceCtorEq, hs.len]
  generalize (Value.slice (some ⟨w.heap.size, 0, none⟩) ls.length ls.length) = out at ho0 ⊢
  refine loop_rule (fun e w' => ∃ (i : Nat) (vs : List Value), i ≤ ls.length ∧ e 11 = .int .i64 i ∧ e 10 = .int .i64 ls.length ∧ e 9 = s ∧ e 3 = out ∧ Grow w w' ∧ vs.length = i ∧
      w'.ownsRow w.heap.size 28 1 out ls.length (vs ++ List.replicate (ls.length - i) (.slice none 0 0)) ∧ RowsO w.heap.size 5 w' vs (ls.take i)) (fun e _ => ls.length - (intOf (e 11)).toNat)
    ⟨0, [], by omega, by simp [upd], by simp [upd], by simp [upd], by simp [upd], hg0, rfl, by simpa using ho0, trivial⟩ ?_
  rintro e w1 ⟨i, vs, hi, h11, h10, h9, h3, hg, hvl, ho, hr⟩
  by_cases hlt : i < ls.length
  · obtain ⟨p, u, hp, hpc, hu⟩ := (hs.grow hg).get hlt
    have hc := bytesClone_spec u _ w1 hu (by have := hsm _ (List.getElem_mem hlt); omega)
    simp (maxSteps := 600000) (disch := omega) only [F89_L0, ↓sy1, sy2, sy3, readOK, sy5, sy6, Nat.reduceEqDiff, ↓reduceIte, sy7, sy8, sy9, sya, oneOf, syb, syc, Nat.reduceAdd, Nat.reduceMul, syd, sye, syf, syg, syh, reduceCtorEq, h11, h10, h9, h3, hp, hpc, Int.ofNat_lt, hlt, decide_true]
    refine call0 hc ?_
    rintro v w2 ⟨hv, hg2⟩
    have ho2 := own_grow ho hg2
    obtain ⟨a, w3, ha, hst, ho3, hk3, hbk⟩ := own_store ho2 hlt (Has.own hv).isCell
    simp (maxSteps := 600000) (disch := omega) only [↓sy1, sy2, sy3, readOK, sy5, sy6, Nat.reduceEqDiff, ↓reduceIte, sy7, sy8, sy9, sya, oneOf, syb, syc, Nat.reduceAdd, Nat.reduceMul, syd, sye, syf, syg, syh, reduceCtorEq, h11, h10, h9, h3, ha, hst]
    have hgw : Grow w w3 := (hg.trans hg2).then hk3 (fun b hb h => by
      obtain ⟨hbb, _⟩ := World.ownsRow.lt ho2 b h; omega)
    refine R_out ⟨⟨i + 1, vs ++ [v], by omega, rfl, hgw, by simp [hvl], ?_, ?_⟩, ?_⟩
    · have : (vs ++ List.replicate (ls.length - i) (Value.slice none 0 0)).set i v = (vs ++ [v]) ++ List.replicate (ls.length - (i + 1)) (.slice none 0 0) := by
        rw [List.set_append_right _ _ (by omega), hvl, Nat.sub_self, show ls.length - i = (ls.length - (i + 1)) + 1 from by omega, List.replicate_succ]
        simp
      rw [this] at ho3; exact ho3
    · rw [List.take_succ_eq_append_getElem hlt]
      refine RowsO.snoc ((hr.grow hg2).keep hk3 (fun b hb u' n' xs' hu' => own_ne ho2 hu' (by decide) hb)) ?_
      exact own_keep (own_base hv hg.size) hk3 (fun b hb hS => own_ne ho2 (own_base hv hg.size) (by decide) hS hb)
    · simp only [intOf]; omega
  · simp (maxSteps := 600000) (disch := omega) only [F89_L0, ↓sy1, sy2, sy3, readOK, sy5, sy6, Nat.reduceEqDiff, ↓reduceIte, sy7, sy8, sy9, sya, oneOf, syb, syc, Nat.reduceAdd, Nat.reduceMul, syd, sye, syf, syg, syh, reduceCtorEq, h11, h10, h9, h3, Int.ofNat_lt, hlt, decide_false]
    have hie : i = ls.length := by omega
    subst hie
    exact R_out ⟨⟨vs, by simpa using ho, by simpa using hr⟩, hg⟩

theorem copyAll_spec (s : Value) (ls : List (List UInt8)) (w : World) (hs : HasR w s ls) (hl : ls.length ≤ 1048576) (hsm : Small ls) :
    Calls Try.prog 106 #[s] w (Ret fun v w' => FreshR w.heap.size 28 5 w' v ls ∧ Grow w w') := by
  apply enter106
  apply R_in
  simp (maxSteps := 600000) (disch := omega) only [F106, ↓sy1, sy2, sy3, readOK, sy5, sy6, Nat.reduceEqDiff, ↓reduceIte, sy7, sy8, sy9, sya, oneOf, syb, syc, Nat.reduceAdd, Nat.reduceMul, syd, sye, syf, syg, syh, reduceCtorEq, hs.len]
  refine loop_rule (fun e w' => ∃ (i : Nat) (vs : List Value) (out : Value), i ≤ ls.length ∧ e 4 = .int .i64 i ∧ e 0 = s ∧ e 3 = out ∧ Grow w w' ∧ vs.length = i ∧
      w'.ownsRow w.heap.size 28 1 out i vs ∧ RowsO w.heap.size 5 w' vs (ls.take i)) (fun e _ => ls.length - (intOf (e 4)).toNat)
    ⟨0, [], .slice none 0 0, by omega, by simp [upd], by simp [upd], by simp [upd], Keep.refl _ _, rfl, World.ownsRow_nil w _ _ _, trivial⟩ ?_
  rintro e w1 ⟨i, vs, out, hi, h4, h0, h3, hg, hvl, ho, hr⟩
  by_cases hlt : i < ls.length
  · obtain ⟨p, u, hp, hpc, hu⟩ := (hs.grow hg).get hlt
    have hc := copy_spec u _ w1 hu (by have := hsm _ (List.getElem_mem hlt); omega)
    simp (maxSteps := 600000) (disch := omega) only [F106_L0, ↓sy1, sy2, sy3, readOK, sy5, sy6, Nat.reduceEqDiff, ↓reduceIte, sy7, sy8, sy9, sya, oneOf, syb, syc, Nat.reduceAdd, Nat.reduceMul, syd, sye, syf, syg, syh, reduceCtorEq, h4, h0, h3, hs.len, hp, hpc, Int.ofNat_lt, hlt, decide_true]
    refine call0 hc ?_
    rintro v w2 ⟨hv, hg2⟩
    have hvc := (Has.own hv).isCell
    simp (maxSteps := 600000) (disch := omega) only [↓sy1, sy2, sy3, readOK, sy5, sy6, Nat.reduceEqDiff, ↓reduceIte, sy7, sy8, sy9, sya, oneOf, syb, syc, Nat.reduceAdd, Nat.reduceMul, syd, sye, syf, syg, syh, reduceCtorEq, h4, h0, h3, oneF_cell hvc]
    have ho2 := own_grow ho hg2
    have hga : Grow w2 (w2.alloc (.cells #[v] 28)) := (Keep.refl _ _).alloc _
    refine app_own elemR (by simp only [upd_at, Nat.reduceEqDiff, reduceIte, ev_tmp, ev_const, List.map_cons, List.map_nil, h3]) (by simp only [upd_at, Nat.reduceEqDiff, reduceIte, ev_tmp, ev_const, List.map_cons, List.map_nil]) (own_grow ho2 hga) Has.new1 (m := 1) rfl (by simpa using hvc) (by omega) (by omega) (by have := hg.size; have := hg2.size; simp; omega) ?_
    intro out' w3 ho3 hg3
    simp (maxSteps := 600000) (disch := omega) only [↓sy1, sy2, sy3, readOK, sy5, sy6, Nat.reduceEqDiff, ↓reduceIte, sy7, sy8, sy9, sya, oneOf, syb, syc, Nat.reduceAdd, Nat.reduceMul, syd, sye, syf, syg, syh, reduceCtorEq, h4, h0, h3]
    have hk3 := (Keep.refl (fun b => some b = out.ownBlock) w2).trans (((Keep.refl _ _).alloc _).trans (Keep.grown hg3))
    have hgw : Grow w w3 := (hg.trans hg2).then hk3 (fun b hb h => by
      obtain ⟨hbb, _⟩ := World.ownsRow.lt ho2 b h.symm; omega)
    refine R_out ⟨⟨i + 1, vs ++ [v], out', by omega, rfl, rfl, hgw, by simp [hvl], ho3, ?_⟩, ?_⟩
    · rw [List.take_succ_eq_append_getElem hlt]
      refine RowsO.snoc ((hr.grow hg2).keep hk3 (fun b hb u' n' xs' hu' => own_ne ho2 hu' (by decide) hb.symm)) ?_
      exact own_keep (own_base hv hg.size) hk3 (fun b hb hS => own_ne ho2 (own_base hv hg.size) (by decide) hS.symm hb)
    · simp only [intOf]; omega
  · simp (maxSteps := 600000) (disch := omega) only [F106_L0, ↓sy1, sy2, sy3, readOK, sy5, sy6, Nat.reduceEqDiff, ↓reduceIte, sy7, sy8, sy9, sya, oneOf, syb, syc, Nat.reduceAdd, Nat.reduceMul, syd, sye, syf, syg, syh, reduceCtorEq, h4, h0, h3, hs.len, Int.ofNat_lt, hlt, decide_false]
    have hie : i = ls.length := by omega
    subst hie
    exact R_out ⟨⟨vs, by simpa using ho, by simpa using hr⟩, hg⟩
end Go.Proofs.Ytneehlkofcdhoaa
