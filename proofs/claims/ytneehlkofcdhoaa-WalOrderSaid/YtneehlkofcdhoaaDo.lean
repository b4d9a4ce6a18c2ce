/- The disk: what is made and done. -/
import Derived.Test.YtneehlkofcdhoaaOnF
import Derived.Test.YtneehlkofcdhoaaCodeA
namespace Go.Proofs.Ytneehlkofcdhoaa
open Go
set_option linter.unusedSimpArgs false
open Go.RowKit (intOf)
/-- Parts, their values reckoned. -/
def fillF (z : Array Value) : List (Nat × Nat × Value) → Option (Array Value)
  | [] => some z
  | (off, size, v) :: l => if v.cells.size ≠ size || off + v.cells.size > z.size then none
    else fillF (v.cells.zipIdx.foldl (fun cs (c, j) => cs.setIfInBounds (off + j) c) z) l
theorem fill_all {e : Env} : ∀ (l : List (Nat × Nat × Operand)) (z : Array Value), fillV e z l = fillF z (l.map fun p => (p.1, p.2.1, ev e p.2.2))
  | [], _ => rfl
  | (off, size, x) :: l, z => by
    simp only [fillV, List.map_cons, fillF]
    split
    · rfl
    · exact fill_all l _
theorem fill_gen {e : Env} {a b : Nat × Nat × Operand} {l : List (Nat × Nat × Operand)} {z : Array Value} : fillV e z (a :: b :: l) = fillF z ((a :: b :: l).map fun p => (p.1, p.2.1, ev e p.2.2)) := fill_all _ _
theorem fillF_cell {z : Array Value} {off : Nat} {v : Value} {l : List (Nat × Nat × Value)} (hv : isCell v = true) (h : off < z.size) : fillF z ((off, 1, v) :: l) = fillF (z.setIfInBounds off v) l := by
  have hc := isCell_cells hv
  rw [fillF, hc]
  simp; omega
theorem fillF_nil {z : Array Value} : fillF z [] = some z := rfl
theorem fillF_two {z : Array Value} {off : Nat} {a b : Value} {l : List (Nat × Nat × Value)} (h : off + 1 < z.size) : fillF z ((off, 2, .agg #[a, b]) :: l) = fillF ((z.setIfInBounds off a).setIfInBounds (off + 1) b) l := by
  rw [fillF]
  simp [Value.cells, Array.zipIdx]
  omega
theorem fillF_2 {a b u v : Value} (hu : isCell u = true) (hv : isCell v = true) : fillF #[a, b] [(0, 1, u), (1, 1, v)] = some #[u, v] := by
  rw [fillF_cell hu (by simp), fillF_cell hv (by simp), fillF_nil]; simp
theorem fillF_disk {a b c d u x y : Value} (hu : isCell u = true) : fillF #[a, b, c, d] [(0, 1, u), (2, 2, .agg #[x, y])] = some #[u, b, x, y] := by
  rw [fillF_cell hu (by simp), fillF_two (by simp), fillF_nil]; simp
theorem fillF_fork {a b c d u v x y : Value} (hu : isCell u = true) (hv : isCell v = true) : fillF #[a, b, c, d] [(0, 1, u), (1, 1, v), (2, 2, .agg #[x, y])] = some #[u, v, x, y] := by
  rw [fillF_cell hu (by simp), fillF_cell hv (by simp), fillF_two (by simp), fillF_nil]; simp
section
variable {w : World} {v : Value} {xs : List Value}
/-- A slice up to its own end. -/
theorem Has.slcAll (h : Has 1 w v xs) : ∃ v', slcF 1 v none (some (.int .i64 xs.length)) (some (.int .i64 xs.length)) = some v' ∧ Has 1 w v' xs ∧ (∀ a n c, v' = .slice (some a) n c → n = c) ∧ ∀ b o l c, v' = .slice (some ⟨b, o, none⟩) l c → xs ≠ [] → ∃ c', v = .slice (some ⟨b, o, none⟩) l c' := by
  rcases h with ⟨b, o, n, c, rfl, h1, h2, h3⟩ | ⟨rfl, rfl⟩
  · rw [Nat.mul_one] at h1
    refine ⟨.slice (some ⟨b, o, none⟩) n n, ?_, .inl ⟨b, o, n, n, rfl, by omega, Nat.le_refl _, h3⟩, fun a n' c' h => by cases h; rfl, fun b' o' l' c' h _ => by cases h; exact ⟨c, rfl⟩⟩
    simp only [slcF, slcV, bndV]
    rw [if_pos ⟨by omega, by omega⟩]
    simp only []
    rw [if_pos ⟨by omega, by omega⟩]
    simp [h1, add_lit]
  · exact ⟨.slice none 0 0, by simp [slcF, slcV, bndV], Has.nil 1 w, (fun a n c h => by cases h), (fun b o l c h => by cases h)⟩
end
theorem FreshR.rowsAt {B : Nat} {tr t : TypeId} {w : World} {v : Value} {ls : List (List UInt8)} {G : Gh} (h : FreshR B tr t w v ls) (hG : ∀ b, B ≤ b → maxLen ≤ G.fix b) : RowsAt G w v ls := by
  obtain ⟨vs, h1, h2⟩ := h
  have one : ∀ {t' : TypeId} {u : Value} {n : Nat} {xs : List Value}, w.ownsRow B t' 1 u n xs → HasF G w u xs := fun {t' u n xs} ho => by
    refine ⟨Has.own ho, fun b o l c hv _ => ?_⟩
    obtain ⟨hl, ⟨rfl, _⟩ | ⟨g, cap, cur, rfl, hB, _, hc, hm, _⟩⟩ := ho
    · cases hv
    · cases hv
      have := hG b hB; omega
  refine ⟨vs, one h1, ?_⟩
  clear h1
  induction vs generalizing ls with
  | nil => cases ls <;> first | trivial | exact h2.elim
  | cons u vs ih => cases ls with
    | nil => exact h2.elim
    | cons l ls => exact ⟨one h2.1, ih h2.2⟩
theorem Small.of512 {ls : List (List UInt8)} (h : ∀ b ∈ ls, b.length = 512) : Small ls := fun b hb => by have := h b hb; omega

theorem begun_spec {G : Gh} (κ : Nat) {w : World} {v : Value} {ls : List (List UInt8)} (h : RowsAt G w v ls) (hok : (⟨ls, []⟩ : Dsk).Ok) :
    Calls Try.prog 71 #[v] w (Ret fun r w' => ∃ p G', r = .pointer (some ⟨p, 0, none⟩) ∧ w.heap.size ≤ p ∧ DiskAt G' κ w' p ⟨ls, []⟩ ∧ Ext0 G w G' w') := by
  obtain ⟨vs, hv, hr⟩ := h
  have hlen := hr.length
  have hmost := hok.most
  simp only at hmost
  apply enter71
  apply R_in
  simp (maxSteps := 600000) (disch := omega) only [F71, ↓sy1, sy2, sy3, readOK, sy5, sy6, Nat.reduceEqDiff, ↓reduceIte, sy7, sy8, sy9, sya, oneOf, syb, syc, Nat.reduceAdd, Nat.reduceMul, syd, sye, syf, syg, syh, reduceCtorEq]
  refine call0 (slicesClone_spec v vs w hv.1 hr.cell (by omega)) ?_
  rintro u w1 ⟨ho, hg⟩
  have huc := (Has.own ho).isCell
  have hvc := hv.1.isCell
  simp (maxSteps := 600000) (disch := omega) only [↓sy1, sy2, sy3, readOK, sy5, sy6, Nat.reduceEqDiff, ↓reduceIte, sy7, sy8, sy9, sya, oneOf, syb, syc, Nat.reduceAdd, Nat.reduceMul, syd, sye, syf, syg, syh, reduceCtorEq, fill_gen, fillF_2 huc (show isCell (.map (some w1.heap.size)) = true from rfl), fillF_disk hvc]
  have hg1 : Grow w1 (w1.alloc (.map #[] 0)) := (Keep.refl _ _).alloc _
  have hm := heap_alloc_new w1 (.map #[] 0)
  have hs1 : (w1.alloc (.map #[] 0)).heap.size = w1.heap.size + 1 := by simp
  generalize w1.alloc (.map #[] 0) = w2 at hg1 hm hs1 ⊢
  have hg2 : Grow w2 (w2.alloc (.cells (Value.agg #[v, .slice none 0 0, u, .map (some w1.heap.size)]).cells 94)) := (Keep.refl _ _).alloc _
  have hp := heap_alloc_new w2 (.cells (Value.agg #[v, .slice none 0 0, u, .map (some w1.heap.size)]).cells 94)
  generalize w2.alloc (.cells (Value.agg #[v, .slice none 0 0, u, .map (some w1.heap.size)]).cells 94) = w3 at hg2 hp ⊢
  have hgw : Grow w w3 := (hg.trans hg1).trans hg2
  have hx : Ext0 G w (G.upto w.heap.size (fun _ => κ) (fun _ => 0)) w3 := .upto hgw _ _
  have hge := hg.size
  have hge2 := hg1.size
  have hno : ∀ b, w.heap.size ≤ b → (G.upto w.heap.size (fun _ => κ) (fun _ => 0)).own b = κ ∧ (G.upto w.heap.size (fun _ => κ) (fun _ => 0)).fix b = 0 := fun b hb => by simp [Gh.upto, Nat.not_lt.2 hb]
  refine R_out ⟨w2.heap.size, _, rfl, by omega, ⟨hok, by simp, v, .slice none 0 0, u, w1.heap.size, hp, (hno _ (by omega)).1, (hno _ (by omega)).2, ⟨vs, hv.ext hx, hr.ext hx⟩, ⟨[], HasF.nil _ _, trivial⟩, ?_, ?_⟩, hx⟩
  · have ho3 := own_grow (ho) (hg1.trans hg2)
    obtain ⟨_, ⟨hn, hz⟩ | ⟨g, cap, cur, hu, hB, _⟩⟩ := id ho3
    · have := hok.some; simp only at this; omega
    · exact ⟨vs, g, by rw [hu]; rfl, by rw [Dsk.safe_new, ← hlen]; exact own_base ho3 (Nat.zero_le _), hr.ext hx, (hno g hB).1, (hno g hB).2⟩
  · exact ⟨#[], 0, hg2.gheap hm, (hno _ (by omega)).1, ⟨by simp, by simp, by simp⟩, by simp, fun n hn => absurd rfl hn, by simp⟩
theorem new_bad {n : Int} {w : World} (h : n < 1 ∨ 4096 < n) : Calls Try.prog 36 #[.int .i64 n] w (Ret fun v w' => v = .tuple #[.pointer none, .int .i64 2] ∧ w' = w) := by
  apply enter36
  apply R_in
  by_cases h1 : n < 1
  · simp (maxSteps := 600000) (disch := omega) only [F36, ↓sy1, sy2, sy3, readOK, sy5, sy6, Nat.reduceEqDiff, ↓reduceIte, sy7, sy8, sy9, sya, oneOf, syb, syc, Nat.reduceAdd, Nat.reduceMul, syd, sye, syf, syg, syh, reduceCtorEq, h1, decide_true]
    exact R_out trivial
  · have h2 : 4096 < n := by omega
    simp (maxSteps := 600000) (disch := omega) only [F36, ↓sy1, sy2, sy3, readOK, sy5, sy6, Nat.reduceEqDiff, ↓reduceIte, sy7, sy8, sy9, sya, oneOf, syb, syc, Nat.reduceAdd, Nat.reduceMul, syd, sye, syf, syg, syh, reduceCtorEq, h1, decide_false, h2, decide_true]
    exact R_out trivial
theorem bs_zsec : bs zsec = List.replicate 512 (.int .u8 0) := by
  simp only [bs, zsec, List.map_replicate]; rfl
theorem new_spec (G : Gh) (κ : Nat) {n : Nat} {w : World} (h1 : 1 ≤ n) (h2 : n ≤ 4096) :
    Calls Try.prog 36 #[.int .i64 n] w (Ret fun v w' => ∃ p G', v = .tuple #[.pointer (some ⟨p, 0, none⟩), .int .i64 0] ∧ w.heap.size ≤ p ∧ DiskAt G' κ w' p (Dsk.zero n) ∧ Ext0 G w G' w') := by
  apply enter36
  apply R_in
  have hn1 : ¬ ((n : Int) < 1) := by omega
  have hn2 : ¬ ((4096 : Int) < n) := by omega
  simp (maxSteps := 600000) (disch := omega) only [F36, ↓sy1, sy2, sy3, readOK, sy5, sy6, Nat.reduceEqDiff, ↓reduceIte, sy7, sy8, sy9, sya, oneOf, syb, syc, Nat.reduceAdd, Nat.reduceMul, syd, sye, syf, syg, syh, reduceCtorEq, hn1, hn2, decide_false]
  refine mk_rule elemR (kx := .i64) (ky := .i64) (a := n) (c := n) (by simp only [upd_at, Nat.reduceEqDiff, reduceIte, ev_tmp, ev_const, List.map_cons, List.map_nil]) (by simp only [upd_at, Nat.reduceEqDiff, reduceIte, ev_tmp, ev_const, List.map_cons, List.map_nil]) (by omega) (by omega) (by omega) (by omega) rfl ?_
  have hg0 : Grow w (w.alloc (.cells (Array.replicate (n : Int).toNat (.slice none 0 0)) 28)) := (Keep.refl _ _).alloc _
  have ho0 := own_made w w.heap.size (Nat.le_refl _) 28 (n : Int).toNat (by simp; omega) (.slice none 0 0)
  generalize w.alloc (.cells (Array.replicate (n : Int).toNat (.slice none 0 0)) 28) = w0 at hg0 ho0 ⊢
  simp only [Int.toNat_natCast] at ho0 ⊢
  simp (maxSteps := 600000) (disch := omega) only [↓sy1, sy2, sy3, readOK, sy5, sy6, Nat.reduceEqDiff, ↓reduceIte, sy7, sy8, sy9, sya, oneOf, syb, syc, Nat.reduceAdd, Nat.reduceMul, syd, sye, syf, syg, syh, reduceCtorEq, (Has.own ho0).len, List.length_replicate]
  generalize (Value.slice (some ⟨w.heap.size, 0, none⟩) n n) = out at ho0 ⊢
  refine loop_rule (fun e w' => ∃ (i : Nat) (vs : List Value), i ≤ n ∧ e 16 = .int .i64 i ∧ e 15 = .int .i64 n ∧ e 4 = out ∧ Grow w w' ∧ vs.length = i ∧
      w'.ownsRow w.heap.size 28 1 out n (vs ++ List.replicate (n - i) (.slice none 0 0)) ∧ RowsO w.heap.size 5 w' vs (List.replicate i zsec)) (fun e _ => n - (intOf (e 16)).toNat)
    ⟨0, [], by omega, by simp [upd], by simp [upd], by simp [upd], hg0, rfl, by simpa using ho0, trivial⟩ ?_
  rintro e w1 ⟨i, vs, hi, h16, h15, h4, hg, hvl, ho, hr⟩
  by_cases hlt : i < n
  · simp (maxSteps := 600000) (disch := omega) only [F36_L0, ↓sy1, sy2, sy3, readOK, sy5, sy6, Nat.reduceEqDiff, ↓reduceIte, sy7, sy8, sy9, sya, oneOf, syb, syc, Nat.reduceAdd, Nat.reduceMul, syd, sye, syf, syg, syh, reduceCtorEq, h16, h15, h4, Int.ofNat_lt, hlt, decide_true]
    refine mk_rule elemB (kx := .i64) (ky := .i64) (a := 512) (c := 512) (by simp only [upd_at, Nat.reduceEqDiff, reduceIte, ev_tmp, ev_const, List.map_cons, List.map_nil]) (by simp only [upd_at, Nat.reduceEqDiff, reduceIte, ev_tmp, ev_const, List.map_cons, List.map_nil]) (by omega) (by omega) (by omega) (by omega) rfl ?_
    have hg2 : Grow w1 (w1.alloc (.cells (Array.replicate (512 : Int).toNat (.int .u8 0)) 5)) := (Keep.refl _ _).alloc _
    have hv := own_made w1 w1.heap.size (Nat.le_refl _) 5 (512 : Int).toNat (by decide) (.int .u8 0)
    generalize w1.alloc (.cells (Array.replicate (512 : Int).toNat (.int .u8 0)) 5) = w2 at hg2 hv ⊢
    rw [show (512 : Int).toNat = 512 from rfl] at hv ⊢
    generalize (Value.slice (some ⟨w1.heap.size, 0, none⟩) 512 512) = v at hv ⊢
    rw [← bs_zsec] at hv
    have ho2 := own_grow ho hg2
    obtain ⟨a, w3, ha, hst, ho3, hk3, hbk⟩ := own_store ho2 hlt (Has.own hv).isCell
    simp (maxSteps := 600000) (disch := omega) only [↓sy1, sy2, sy3, readOK, sy5, sy6, Nat.reduceEqDiff, ↓reduceIte, sy7, sy8, sy9, sya, oneOf, syb, syc, Nat.reduceAdd, Nat.reduceMul, syd, sye, syf, syg, syh, reduceCtorEq, h16, h15, h4, ha, hst]
    have hgw : Grow w w3 := (hg.trans hg2).then hk3 (fun b hb h => by
      obtain ⟨hbb, _⟩ := World.ownsRow.lt ho2 b h; omega)
    refine R_out ⟨⟨i + 1, vs ++ [v], by omega, rfl, hgw, by simp [hvl], ?_, ?_⟩, ?_⟩
    · have : (vs ++ List.replicate (n - i) (Value.slice none 0 0)).set i v = (vs ++ [v]) ++ List.replicate (n - (i + 1)) (.slice none 0 0) := by
        rw [List.set_append_right _ _ (by omega), hvl, Nat.sub_self, show n - i = (n - (i + 1)) + 1 from by omega, List.replicate_succ]
        simp
      rw [this] at ho3; exact ho3
    · rw [List.replicate_succ']
      refine RowsO.snoc ((hr.grow hg2).keep hk3 (fun b hb u' n' xs' hu' => own_ne ho2 hu' (by decide) hb)) ?_
      rw [zsec_length]
      exact own_keep (own_base hv hg.size) hk3 (fun b hb hS => own_ne ho2 (own_base hv hg.size) (by decide) hS hb)
    · simp only [intOf]; omega
  · simp (maxSteps := 600000) (disch := omega) only [F36_L0, ↓sy1, sy2, sy3, readOK, sy5, sy6, Nat.reduceEqDiff, ↓reduceIte, sy7, sy8, sy9, sya, oneOf, syb, syc, Nat.reduceAdd, Nat.reduceMul, syd, sye, syf, syg, syh, reduceCtorEq, h16, h15, h4, Int.ofNat_lt, hlt, decide_false]
    have hie : i = n := by omega
    subst hie
    have hf : FreshR w.heap.size 28 5 w1 out (List.replicate i zsec) := ⟨vs, by simpa using ho, hr⟩
    have hx : Ext0 G w (G.upto w.heap.size (fun _ => 0) (fun _ => maxLen)) w1 := .upto hg _ _
    have hra : RowsAt (G.upto w.heap.size (fun _ => 0) (fun _ => maxLen)) w1 out (List.replicate i zsec) := hf.rowsAt (fun b hb => by simp [Gh.upto, Nat.not_lt.2 hb])
    refine call0 (begun_spec κ hra (Dsk.zero_ok h1 h2)) ?_
    rintro v w2 ⟨p, G', rfl, hp, hd, hx2⟩
    simp (maxSteps := 600000) (disch := omega) only [↓sy1, sy2, sy3, readOK, sy5, sy6, Nat.reduceEqDiff, ↓reduceIte, sy7, sy8, sy9, sya, oneOf, syb, syc, Nat.reduceAdd, Nat.reduceMul, syd, sye, syf, syg, syh, reduceCtorEq]
    exact R_out ⟨p, G', rfl, Nat.le_trans hg.size hp, hd, hx.trans hx2⟩
end Go.Proofs.Ytneehlkofcdhoaa
