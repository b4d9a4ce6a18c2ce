/- The disk: its image, and what is safe. -/
import Derived.Test.YtneehlkofcdhoaaBa
namespace Go.Proofs.Ytneehlkofcdhoaa
open Go
set_option linter.unusedSimpArgs false
open Go.RowKit (intOf)
theorem image_spec {G : Gh} {κ : Nat} {w : World} {p : Nat} {D : Dsk} (h : DiskAt G κ w p D) :
    Calls Try.prog 53 #[.pointer (some ⟨p, 0, none⟩)] w (Ret fun v w' => FreshR w.heap.size 28 5 w' v D.image ∧ Grow w w') := by
  have hok := h.ok
  have hd := h
  obtain ⟨_, hl, vf, vl, vs, m, hp, ho, hf, h1, h2, hs, hw⟩ := h
  have hc0 : w.cell? ⟨p, 0, none⟩ = some vf := by rw [cell_block hp]; rfl
  have hmost := hok.most
  have hil := D.image_length
  generalize hn : D.first.length = n at hmost hil
  have hlenf : ∀ w2, lenF w2 0 vf = some (.int .i64 n) := fun w2 => by rw [h1.has.len, hn]
  apply enter53
  apply R_in
  simp (maxSteps := 600000) (disch := omega) only [F53, ↓sy1, sy2, sy3, readOK, sy5, sy6, Nat.reduceEqDiff, ↓reduceIte, sy7, sy8, sy9, sya, oneOf, syb, syc, Nat.reduceAdd, Nat.reduceMul, syd, sye, syf, syg, syh, reduceCtorEq, hc0, hlenf]
  refine mk_rule elemR (kx := .i64) (ky := .i64) (a := n) (c := n) (by simp only [upd_at, Nat.reduceEqDiff, reduceIte, ev_tmp, ev_const, List.map_cons, List.map_nil]) (by simp only [upd_at, Nat.reduceEqDiff, reduceIte, ev_tmp, ev_const, List.map_cons, List.map_nil]) (by omega) (by omega) (by omega) (by omega) rfl ?_
  have hg0 : Grow w (w.alloc (.cells (Array.replicate (n : Int).toNat (.slice none 0 0)) 28)) := (Keep.refl _ _).alloc _
  have ho0 := own_made w w.heap.size (Nat.le_refl _) 28 (n : Int).toNat (by simp; omega) (.slice none 0 0)
  generalize w.alloc (.cells (Array.replicate (n : Int).toNat (.slice none 0 0)) 28) = w0 at hg0 ho0 ⊢
  simp only [Int.toNat_natCast] at ho0 ⊢
  simp (maxSteps := 600000) (disch := omega) only [↓sy1, sy2, sy3, readOK, sy5, sy6, Nat.reduceEqDiff, ↓reduceIte, sy7, sy8, sy9, sya, oneOf, syb, syc, Nat.reduceAdd, Nat.reduceMul, syd, sye, syf, syg, syh, reduceCtorEq, (Has.own ho0).len, List.length_replicate]
  generalize (Value.slice (some ⟨w.heap.size, 0, none⟩) n n) = out at ho0 ⊢
  refine loop_rule (fun e w' => ∃ (i : Nat) (vs : List Value), i ≤ n ∧ e 15 = .int .i64 i ∧ e 14 = .int .i64 n ∧ e 0 = .pointer (some ⟨p, 0, none⟩) ∧ e 3 = out ∧ Grow w w' ∧ vs.length = i ∧
      w'.ownsRow w.heap.size 28 1 out n (vs ++ List.replicate (n - i) (.slice none 0 0)) ∧ RowsO w.heap.size 5 w' vs (D.image.take i)) (fun e _ => n - (intOf (e 15)).toNat)
    ⟨0, [], by omega, by simp [upd], by simp [upd], by simp [upd], by simp [upd], hg0, rfl, by simpa using ho0, trivial⟩ ?_
  rintro e w1 ⟨i, vs, hi, h15, h14, h0, h3, hg, hvl, ho, hr⟩
  by_cases hlt : i < n
  · have hd1 := hd.grow hg
    simp (maxSteps := 600000) (disch := omega) only [F53_L0, ↓sy1, sy2, sy3, readOK, sy5, sy6, Nat.reduceEqDiff, ↓reduceIte, sy7, sy8, sy9, sya, oneOf, syb, syc, Nat.reduceAdd, Nat.reduceMul, syd, sye, syf, syg, syh, reduceCtorEq, h15, h14, h0, h3, Int.ofNat_lt, hlt, decide_true]
    refine call0 (readS_spec hd1 (by omega)) ?_
    rintro u w2 ⟨rfl, hu⟩
    have h512 := hok.image _ (List.getElem_mem (show i < D.image.length by omega))
    simp (maxSteps := 600000) (disch := omega) only [↓sy1, sy2, sy3, readOK, sy5, sy6, Nat.reduceEqDiff, ↓reduceIte, sy7, sy8, sy9, sya, oneOf, syb, syc, Nat.reduceAdd, Nat.reduceMul, syd, sye, syf, syg, syh, reduceCtorEq, h15, h14, h0, h3]
    refine call0 (bytesClone_spec u _ w2 hu.1 (by omega)) ?_
    rintro v w3 ⟨hv, hg2⟩
    have ho2 := own_grow ho hg2
    obtain ⟨a, w4, ha, hst, ho3, hk3, hbk⟩ := own_store ho2 hlt (Has.own hv).isCell
    simp (maxSteps := 600000) (disch := omega) only [↓sy1, sy2, sy3, readOK, sy5, sy6, Nat.reduceEqDiff, ↓reduceIte, sy7, sy8, sy9, sya, oneOf, syb, syc, Nat.reduceAdd, Nat.reduceMul, syd, sye, syf, syg, syh, reduceCtorEq, h15, h14, h0, h3, ha, hst]
    have hgw : Grow w w4 := (hg.trans hg2).then hk3 (fun b hb h => by
      obtain ⟨hbb, _⟩ := World.ownsRow.lt ho2 b h; omega)
    refine R_out ⟨⟨i + 1, vs ++ [v], by omega, rfl, hgw, by simp [hvl], ?_, ?_⟩, ?_⟩
    · have : (vs ++ List.replicate (n - i) (Value.slice none 0 0)).set i v = (vs ++ [v]) ++ List.replicate (n - (i + 1)) (.slice none 0 0) := by
        rw [List.set_append_right _ _ (by omega), hvl, Nat.sub_self, show n - i = (n - (i + 1)) + 1 from by omega, List.replicate_succ]
        simp
      rw [this] at ho3; exact ho3
    · rw [List.take_succ_eq_append_getElem (by omega)]
      refine RowsO.snoc ((hr.grow hg2).keep hk3 (fun b hb u' n' xs' hu' => own_ne ho2 hu' (by decide) hb)) ?_
      exact own_keep (own_base hv hg.size) hk3 (fun b hb hS => own_ne ho2 (own_base hv hg.size) (by decide) hS hb)
    · simp only [intOf]; omega
  · simp (maxSteps := 600000) (disch := omega) only [F53_L0, ↓sy1, sy2, sy3, readOK, sy5, sy6, Nat.reduceEqDiff, ↓reduceIte, sy7, sy8, sy9, sya, oneOf, syb, syc, Nat.reduceAdd, Nat.reduceMul, syd, sye, syf, syg, syh, reduceCtorEq, h15, h14, h0, h3, Int.ofNat_lt, hlt, decide_false]
    have hie : i = n := by omega
    subst hie
    rw [List.take_of_length_le (by omega)] at hr
    exact R_out ⟨⟨vs, by rw [hil]; simpa using ho, hr⟩, hg⟩
theorem safe_spec {G : Gh} {κ : Nat} {w : World} {p : Nat} {D : Dsk} (h : DiskAt G κ w p D) :
    Calls Try.prog 65 #[.pointer (some ⟨p, 0, none⟩)] w (Ret fun v w' => FreshR w.heap.size 28 5 w' v D.safe ∧ Grow w w') := by
  have hok := h.ok
  obtain ⟨_, hl, vf, vl, vs, m, hp, ho, hf, h1, h2, ⟨us, sb, h4, h5, h6, h7, h8⟩, hw⟩ := h
  have hc2 : w.cell? ⟨p, 2, none⟩ = some vs := by rw [cell_block hp]; rfl
  have hsl := D.safe_length
  have hmost := hok.most
  apply enter65
  apply R_in
  simp (maxSteps := 600000) (disch := omega) only [F65, ↓sy1, sy2, sy3, readOK, sy5, sy6, Nat.reduceEqDiff, ↓reduceIte, sy7, sy8, sy9, sya, oneOf, syb, syc, Nat.reduceAdd, Nat.reduceMul, syd, sye, syf, syg, syh, reduceCtorEq, hc2]
  refine call0 (copied_spec vs _ w ⟨us, Has.own h5, h6.rows⟩ (by omega) (.of512 hok.safe)) ?_
  rintro v w1 ⟨hv, hg⟩
  simp (maxSteps := 600000) (disch := omega) only [↓sy1, sy2, sy3, readOK, sy5, sy6, Nat.reduceEqDiff, ↓reduceIte, sy7, sy8, sy9, sya, oneOf, syb, syc, Nat.reduceAdd, Nat.reduceMul, syd, sye, syf, syg, syh, reduceCtorEq]
  exact R_out ⟨hv, hg⟩
end Go.Proofs.Ytneehlkofcdhoaa
