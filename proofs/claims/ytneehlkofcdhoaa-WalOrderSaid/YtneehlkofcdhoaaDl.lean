/- Deeds in memory; all pages; groups one after the other. -/
import Derived.Test.YtneehlkofcdhoaaOl
namespace Go.Proofs.Ytneehlkofcdhoaa
open Go
set_option linter.unusedSimpArgs false
open Go.RowKit (intOf)
def DeedsAt (w : World) (v : Value) (l : List Deed3) : Prop :=
  ∃ xs, Has 3 w v xs ∧ xs.length = 3 * l.length ∧ ∀ i (h : i < l.length), ∃ u, xs[3 * i]? = some (.bool l[i].short) ∧ xs[3 * i + 1]? = some u ∧ xs[3 * i + 2]? = some (.int .u8 (l[i].byte.toNat : Int)) ∧ HasX w u l[i].pages
theorem DeedsAt.keep {S : Nat → Prop} {w w' : World} {v : Value} {l : List Deed3} (h : DeedsAt w v l) (hk : Keep S w w') (hs : ∀ b, b < w.heap.size → ¬ S b) : DeedsAt w' v l := by
  obtain ⟨xs, h1, h2, h3⟩ := h
  refine ⟨xs, h1.keep hk (fun b hb hne => hs b (h1.lt hne hb)), h2, fun i hi => ?_⟩
  obtain ⟨u, h4, h5, h6, h7⟩ := h3 i hi
  exact ⟨u, h4, h5, h6, h7.keep hk hs⟩
theorem DeedsAt.grow {w w' : World} {v : Value} {l : List Deed3} (h : DeedsAt w v l) (hk : Grow w w') : DeedsAt w' v l := h.keep hk (fun _ _ => id)
theorem DeedsAt.len {w : World} {v : Value} {l : List Deed3} (h : DeedsAt w v l) (w2 : World) : lenF w2 0 v = some (.int .i64 l.length) := by
  obtain ⟨xs, h1, h2, _⟩ := h
  rw [h1.lenk (by omega), h2, Nat.mul_div_cancel_left _ (by omega)]
theorem DeedsAt.at {w : World} {v : Value} {l : List Deed3} (h : DeedsAt w v l) {i : Nat} (hi : i < l.length) :
    ∃ a u, iaF 3 v (.int .i64 i) = some (.pointer (some a)) ∧ loadN w a 0 3 = some [.bool l[i].short, u, .int .u8 (l[i].byte.toNat : Int)] ∧ Deed3.At w (.agg #[.bool l[i].short, u, .int .u8 (l[i].byte.toNat : Int)]) l[i] := by
  obtain ⟨xs, h1, h2, h3⟩ := h
  obtain ⟨b, o, h5, h6, _⟩ := h1.idxk (i := i) (by omega)
  obtain ⟨u, h7, h8, h9, h10⟩ := h3 i hi
  obtain ⟨x, hx, hxc⟩ := h6 0 (by omega)
  obtain ⟨y, hy, hyc⟩ := h6 1 (by omega)
  obtain ⟨z, hz, hzc⟩ := h6 2 (by omega)
  rw [show i * 3 + 0 = 3 * i from by omega, h7] at hx
  rw [show i * 3 + 1 = 3 * i + 1 from by omega, h8] at hy
  rw [show i * 3 + 2 = 3 * i + 2 from by omega, h9] at hz
  cases hx; cases hy; cases hz
  exact ⟨_, u, h5, loadN3 hxc hyc hzc, u, rfl, h10⟩
/-- All pages. -/
def lpages (size : Nat) (D : Dsk) : List (List UInt8) := (D.image.drop (size + 1)).take 100
theorem lpages_length (size : Nat) (D : Dsk) : (lpages size D).length = min 100 (D.first.length - size - 1) := by
  simp [lpages, Dsk.image_length]; omega
theorem lpages_get {size : Nat} {D : Dsk} {i : Nat} (h : i < (lpages size D).length) : (lpages size D)[i] = D.image[size + 1 + i]'(by rw [lpages_length] at h; rw [D.image_length]; omega) := by
  simp [lpages]
theorem all_spec {G : Gh} {κ : Nat} {w : World} {q size came : Nat} {D : Dsk} (h : LogAt G κ w q size came D) :
    Calls Try.prog 19 #[.pointer (some ⟨q, 0, none⟩)] w (Ret fun v w' => FreshR w.heap.size 28 5 w' v (lpages size D) ∧ Grow w w') := by
  have hll := lpages_length size D
  have h512 : ∀ i (h : i < D.image.length), D.image[i].length = 512 := fun i hi => h.cells.choose_spec.1.ok.image _ (List.getElem_mem hi)
  have hil := D.image_length
  apply enter19
  apply R_in
  simp (maxSteps := 600000) (disch := omega) only [F19, ↓sy1, sy2, sy3, readOK, sy5, sy6, Nat.reduceEqDiff, ↓reduceIte, sy7, sy8, sy9, sya, oneOf, syb, syc, Nat.reduceAdd, Nat.reduceMul, syd, sye, syf, syg, syh, reduceCtorEq]
  refine loop_rule (fun e w' => ∃ i : Nat, i ≤ (lpages size D).length ∧ e 4 = .int .i64 i ∧ e 0 = .pointer (some ⟨q, 0, none⟩) ∧ Grow w w' ∧ FreshR w.heap.size 28 5 w' (e 3) ((lpages size D).take i)) (fun e _ => (lpages size D).length - (intOf (e 4)).toNat)
    ⟨0, by omega, by simp [upd, updO, ev], by simp [upd, updO, ev], Keep.refl _ _, by simpa [upd, updO, ev] using ⟨[], World.ownsRow_nil w _ _ _, trivial⟩⟩ ?_
  rintro e w1 ⟨i, hi, e4, e0, hg1, hf1⟩
  by_cases hlt : i < (lpages size D).length
  · simp (maxSteps := 600000) (disch := omega) only [F19_L0, ↓sy1, sy2, sy3, readOK, sy5, sy6, Nat.reduceEqDiff, ↓reduceIte, sy7, sy8, sy9, sya, oneOf, syb, syc, Nat.reduceAdd, Nat.reduceMul, syd, sye, syf, syg, syh, reduceCtorEq, e4, e0]
    refine call0 (pages_spec (h.grow hg1)) ?_
    rintro _ w2 ⟨rfl, hg2⟩
    have hg12 := hg1.trans hg2
    simp (maxSteps := 600000) (disch := omega) only [↓sy1, sy2, sy3, readOK, sy5, sy6, Nat.reduceEqDiff, ↓reduceIte, sy7, sy8, sy9, sya, oneOf, syb, syc, Nat.reduceAdd, Nat.reduceMul, syd, sye, syf, syg, syh, reduceCtorEq, e4, e0, show ((i : Int) < ((D.first.length - size - 1 : Nat) : Int)) from by omega, show ((i : Int) < 100) from by omega, decide_true]
    refine call0 (lread_spec (h.grow hg12) (n := i) (by omega)) ?_
    rintro _ w3 ⟨u, rfl, hu, hg3⟩
    have hget := lpages_get hlt
    have hul := (h512 (size + 1 + i) (by omega))
    rw [← hget] at hu hul
    have huc := (Has.own hu).isCell
    simp (maxSteps := 600000) (disch := omega) only [↓sy1, sy2, sy3, readOK, sy5, sy6, Nat.reduceEqDiff, ↓reduceIte, sy7, sy8, sy9, sya, oneOf, syb, syc, Nat.reduceAdd, Nat.reduceMul, syd, sye, syf, syg, syh, reduceCtorEq, e4, e0, fill_one, oneF_cell huc]
    have hga : Grow w3 (w3.alloc (.cells #[u] 28)) := (Keep.refl _ _).alloc _
    obtain ⟨vs, h1, h2⟩ := hf1.grow (hg2.trans hg3)
    have hlen : ((lpages size D).take i).length = i := by rw [List.length_take]; omega
    rw [hlen] at h1
    refine app_own elemR (by simp only [upd_at, Nat.reduceEqDiff, reduceIte, ev_tmp, ev_const, List.map_cons, List.map_nil]) (by simp only [upd_at, Nat.reduceEqDiff, reduceIte, ev_tmp, ev_const, List.map_cons, List.map_nil]) (own_grow h1 hga) Has.new1 (m := 1) rfl (by simpa using huc) (by omega) (by omega) (by have := (hg12.trans hg3).size; have := hga.size; omega) ?_
    intro out' w4 ho4 hg4
    simp (maxSteps := 600000) (disch := omega) only [↓sy1, sy2, sy3, readOK, sy5, sy6, Nat.reduceEqDiff, ↓reduceIte, sy7, sy8, sy9, sya, oneOf, syb, syc, Nat.reduceAdd, Nat.reduceMul, syd, sye, syf, syg, syh, reduceCtorEq, e4, e0]
    have hk4 : Keep (fun b => some b = (e 3).ownBlock) w3 w4 := (Keep.grow hga).trans (Keep.grown hg4)
    have hgw : Grow w w4 := (hg12.trans hg3).then hk4 (fun b hb hc => by have := (World.ownsRow.lt h1 b hc.symm).1; omega)
    have hnext : (lpages size D).take (i + 1) = (lpages size D).take i ++ [(lpages size D)[i]] := List.take_succ_eq_append_getElem hlt
    have hvr : w4.ownsRow w.heap.size 5 1 u (lpages size D)[i].length (bs (lpages size D)[i]) := by
      rw [hul]
      exact own_keep (own_base hu hg12.size) hk4 (fun b hb hc => own_ne hu h1 (by decide) hb hc.symm)
    refine R_out ⟨⟨i + 1, by omega, rfl, hgw, vs ++ [u], ?_, ?_⟩, ?_⟩
    · rw [hnext, List.length_append, hlen]; exact ho4
    · rw [hnext]
      exact (h2.keep hk4 (fun b hb u' n xs hu' hub => own_ne hu' h1 (by decide) hub hb.symm)).snoc hvr
    · simp only [intOf]; omega
  · have hie : i = (lpages size D).length := by omega
    rw [hie, List.take_length] at hf1
    simp (maxSteps := 600000) (disch := omega) only [F19_L0, ↓sy1, sy2, sy3, readOK, sy5, sy6, Nat.reduceEqDiff, ↓reduceIte, sy7, sy8, sy9, sya, oneOf, syb, syc, Nat.reduceAdd, Nat.reduceMul, syd, sye, syf, syg, syh, reduceCtorEq, e4, e0]
    refine call0 (pages_spec (h.grow hg1)) ?_
    rintro _ w2 ⟨rfl, hg2⟩
    by_cases hp : (i : Int) < ((D.first.length - size - 1 : Nat) : Int)
    · simp (maxSteps := 600000) (disch := omega) only [↓sy1, sy2, sy3, readOK, sy5, sy6, Nat.reduceEqDiff, ↓reduceIte, sy7, sy8, sy9, sya, oneOf, syb, syc, Nat.reduceAdd, Nat.reduceMul, syd, sye, syf, syg, syh, reduceCtorEq, e4, e0, hp, show ¬ ((i : Int) < 100) from by omega, decide_true, decide_false]
      exact R_out ⟨hf1.grow hg2, hg1.trans hg2⟩
    · simp (maxSteps := 600000) (disch := omega) only [↓sy1, sy2, sy3, readOK, sy5, sy6, Nat.reduceEqDiff, ↓reduceIte, sy7, sy8, sy9, sya, oneOf, syb, syc, Nat.reduceAdd, Nat.reduceMul, syd, sye, syf, syg, syh, reduceCtorEq, e4, e0, hp, decide_true, decide_false]
      exact R_out ⟨hf1.grow hg2, hg1.trans hg2⟩
theorem lpages_small {G : Gh} {κ : Nat} {w : World} {q size came : Nat} {D : Dsk} (h : LogAt G κ w q size came D) : Small (lpages size D) := fun l hl => by
  rw [h.cells.choose_spec.1.ok.image l (List.mem_of_mem_drop (List.mem_of_mem_take hl))]; omega
theorem ccode_ok {n size : Nat} {ps : List Pg} (h : ccode n size ps = 0) (hne : ps ≠ []) : ps.length ≤ min size 100 ∧ ¬ anyOut (n - size - 1) ps ∧ goodP ps := by
  simp only [ccode, if_neg hne] at h
  split at h
  · cases h
  · split at h
    · cases h
    · split at h
      · exact ⟨by omega, by assumption, by assumption⟩
      · cases h
theorem cdone_ok {n size : Nat} {D : Dsk} {ps : List Pg} (hn : D.first.length = n) (h : ccode n size ps = 0) (hne : ps ≠ []) : cdone size D ps = grouped size D (sortP ps) := by
  unfold cdone; rw [hn, if_pos ⟨hne, h⟩]
/-- Nothing waits. -/
def Flat (D : Dsk) : Prop := D.wait = fun _ => []
theorem Flat.waiting {D : Dsk} (h : Flat D) : D.waiting = [] := by
  unfold Dsk.waiting; rw [h]; simp
theorem cdone_flat {size : Nat} {D : Dsk} {ps : List Pg} (h : Flat D) : Flat (cdone size D ps) := by
  unfold cdone
  split
  · rw [grouped_eq]; exact Dsk.wait_fl _
  · exact h
theorem zero_flat (n : Nat) : Flat (Dsk.zero n) := rfl
theorem cdone_more (size : Nat) (D : Dsk) (ps : List Pg) : (cdone size D ps).ops.length = D.ops.length + if ccode D.first.length size ps = 0 ∧ ps ≠ [] then 2 * ps.length + 6 else 0 := by
  unfold cdone
  by_cases h : ps ≠ [] ∧ ccode D.first.length size ps = 0
  · rw [if_pos h, if_pos h.symm, grouped_ops, sortP_length]
  · rw [if_neg h, if_neg (fun h' => h h'.symm)]; rfl
/-- Groups, one after the other. -/
def commits (size : Nat) (D : Dsk) (l : List Deed3) : Dsk := l.foldl (fun D x => cdone size D x.pgs) D
theorem commits_snoc (size : Nat) (D : Dsk) (l : List Deed3) (x : Deed3) : commits size D (l ++ [x]) = cdone size (commits size D l) x.pgs := by simp [commits, List.foldl_append]
theorem commits_take {size : Nat} {D : Dsk} {l : List Deed3} {i : Nat} (h : i < l.length) : commits size D (l.take (i + 1)) = cdone size (commits size D (l.take i)) l[i].pgs := by
  rw [List.take_succ_eq_append_getElem h, commits_snoc]
theorem cdone_ops (size : Nat) (D : Dsk) (ps : List Pg) : (cdone size D ps).ops.length ≤ D.ops.length + 206 := by
  unfold cdone
  split
  · rename_i h
    have : ps.length ≤ 100 := by
      have h2 := h.2
      simp only [ccode, if_neg h.1] at h2
      split at h2
      · cases h2
      · omega
    rw [grouped_ops, sortP_length]; omega
  · omega
theorem commits_first (size : Nat) : ∀ (l : List Deed3) (D : Dsk), (commits size D l).first = D.first
  | [], _ => rfl
  | x :: l, D => (commits_first size l (cdone size D x.pgs)).trans (cdone_first _ _ _)
theorem commits_ops (size : Nat) : ∀ (l : List Deed3) (D : Dsk), (commits size D l).ops.length ≤ D.ops.length + 206 * l.length
  | [], _ => by simp [commits]
  | x :: l, D => by
    have h1 := commits_ops size l (cdone size D x.pgs)
    have h2 := cdone_ops size D x.pgs
    show (commits size (cdone size D x.pgs) l).ops.length ≤ _
    simp only [List.length_cons]; omega
theorem commits_flat {size : Nat} : ∀ {l : List Deed3} {D : Dsk}, Flat D → Flat (commits size D l)
  | [], _, h => h
  | x :: l, D, h => commits_flat (l := l) (cdone_flat (ps := x.pgs) h)
theorem commits_below {D : Dsk} {size : Nat} {l : List Deed3} {i k : Nat} (hi : i ≤ k) (hD : D.ops.length = 0) : (commits size D (l.take i)).ops.length ≤ 206 * k := by
  have h1 := commits_ops size (l.take i) D
  rw [hD, List.length_take] at h1
  have h2 : 206 * min i l.length ≤ 206 * k := Nat.mul_le_mul_left _ (by omega)
  omega
theorem pgs_most (x : Deed3) : x.pgs.length ≤ 1048576 := by rw [x.pgs_length]; omega
/-- Its head is none, or empty. -/
def Calm (D : Dsk) : Prop := D.image[0]? = some zsec ∨ D.image[0]? = some (headB [])
theorem cdone_calm {size : Nat} {D : Dsk} {ps : List Pg} (h : Calm D) (hf : 0 < D.first.length) : Calm (cdone size D ps) := by
  unfold cdone
  split
  · exact .inr (grouped_head hf)
  · exact h
theorem commits_calm {size : Nat} : ∀ {l : List Deed3} {D : Dsk}, Calm D → 0 < D.first.length → Calm (commits size D l)
  | [], _, h, _ => h
  | x :: l, D, h, hf => commits_calm (l := l) (cdone_calm (ps := x.pgs) h hf) (by rw [cdone_first]; exact hf)
theorem zero_calm {n : Nat} (h : 0 < n) : Calm (Dsk.zero n) := .inl (zero_image h)
end Go.Proofs.Ytneehlkofcdhoaa
