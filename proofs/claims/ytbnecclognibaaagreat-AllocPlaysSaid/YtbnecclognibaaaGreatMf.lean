/- Texts of one claim, put together in their order: what each proves stands ahead of it. -/
import Derived.Test.YtbnecclognibaaaGreatMe
import Derived.Test.YtbnecclognibaaaGreatMc
import Derived.Carry
import Derived.Deep.Slices
import Derived.Lib.SmallJoins
import Derived.OpenShut
/- A map is made: the walk. -/
namespace Go.Proofs.YtbnecclognibaaaGreat
open Go
set_option linter.unusedSimpArgs false
open Go.RowKit (intOf)
/-- Rows of 512 bytes, each in a block of its own. -/
structure DRows (B : Nat) (w : World) (vs : List Value) (ls : List (List UInt8)) : Prop where
  len : vs.length = ls.length
  row : ∀ (i : Nat) (v : Value) (l : List UInt8), vs[i]? = some v → ls[i]? = some l → w.ownsRow B 5 1 v 512 (bs l)
  apart : ∀ (i j : Nat) (v u : Value), vs[i]? = some v → vs[j]? = some u → i ≠ j → ∀ b, v.ownBlock = some b → u.ownBlock ≠ some b
theorem DRows.keep {S : Nat → Prop} {B : Nat} {w w' : World} {vs : List Value} {ls : List (List UInt8)} (h : DRows B w vs ls) (hk : Keep S w w') (hs : ∀ v ∈ vs, ∀ b, v.ownBlock = some b → ¬ S b) : DRows B w' vs ls :=
  ⟨h.len, fun i v l hv hl => own_keep (h.row i v l hv hl) hk (fun b hb => hs v (List.mem_of_getElem? hv) b hb), h.apart⟩
theorem DRows.grow {B : Nat} {w w' : World} {vs : List Value} {ls : List (List UInt8)} (h : DRows B w vs ls) (hg : Grow w w') : DRows B w' vs ls := h.keep hg (fun _ _ _ _ => id)
theorem DRows.lt {B : Nat} {w : World} {vs : List Value} {ls : List (List UInt8)} (h : DRows B w vs ls) {v : Value} (hv : v ∈ vs) {b : Nat} (hb : v.ownBlock = some b) : B ≤ b ∧ b < w.heap.size := by
  obtain ⟨i, hi, rfl⟩ := List.getElem_of_mem hv
  have h1 := h.row i vs[i] (ls[i]'(by rw [← h.len]; exact hi)) (List.getElem?_eq_getElem hi) (List.getElem?_eq_getElem _)
  exact World.ownsRow.lt h1 b hb
theorem DRows.snoc {B : Nat} {w w' : World} {vs : List Value} {ls : List (List UInt8)} {u : Value} {l : List UInt8} (h : DRows B w vs ls) (hg : Grow w w') (hB : B ≤ w.heap.size) (hu : w'.ownsRow w.heap.size 5 1 u 512 (bs l)) : DRows B w' (vs ++ [u]) (ls ++ [l]) := by
  have hl := h.len
  have hcase : ∀ {i : Nat} {v : Value}, (vs ++ [u])[i]? = some v → vs[i]? = some v ∨ (i = vs.length ∧ v = u) := fun {i v} hv => by
    rcases Nat.lt_trichotomy i vs.length with h1 | h1 | h1
    · rw [List.getElem?_append_left h1] at hv; exact .inl hv
    · subst h1; simp at hv; exact .inr ⟨rfl, hv.symm⟩
    · rw [List.getElem?_eq_none (by simp; omega)] at hv; cases hv
  refine ⟨by simp [hl], fun i v x hv hx => ?_, fun i j v z hv hz hij b hb hc => ?_⟩
  · rcases hcase hv with h1 | ⟨rfl, rfl⟩
    · have hi := (List.getElem?_eq_some_iff.1 h1).1
      rw [List.getElem?_append_left (by omega)] at hx
      exact own_grow (h.row i v x h1 hx) hg
    · rw [hl] at hx; simp at hx; subst hx; exact own_base hu hB
  · rcases hcase hv with h1 | ⟨rfl, rfl⟩
    · rcases hcase hz with h2 | ⟨rfl, rfl⟩
      · exact h.apart i j v z h1 h2 hij b hb hc
      · have h3 := (h.lt (List.mem_of_getElem? h1) hb).2
        have h4 := (World.ownsRow.lt hu b hc).1
        omega
    · rcases hcase hz with h2 | ⟨rfl, rfl⟩
      · have h3 := (h.lt (List.mem_of_getElem? h2) hc).2
        have h4 := (World.ownsRow.lt hu b hb).1
        omega
      · exact hij rfl
/-- A byte of a row is written. -/
theorem DRows.store {B : Nat} {w : World} {vs : List Value} {ls : List (List UInt8)} (h : DRows B w vs ls) {i j : Nat} {l : List UInt8} {v : Value} (hv : vs[i]? = some v) (hl : ls[i]? = some l) (hj : j < 512) (hll : l.length = 512) (x : UInt8) :
    ∃ a w', iaF 1 v (.int .i64 j) = some (.pointer (some a)) ∧ w.cell? a = some (.int .u8 ((l.getD j 0).toNat : Int)) ∧ stF w (.pointer (some a)) (.int .u8 (x.toNat : Int)) = some (undef, w') ∧ DRows B w' vs (ls.set i (l.set j x)) ∧ Keep (fun b => v.ownBlock = some b) w w' := by
  have h1 := h.row i v l hv hl
  obtain ⟨a, w', ha, hst, ho, hk, _⟩ := own_store h1 hj (u := .int .u8 (x.toNat : Int)) rfl
  obtain ⟨a', ha', hc, _⟩ := (Has.own h1).getB (i := j) (by omega)
  rw [ha] at ha'
  cases ha'
  refine ⟨a, w', ha, by rw [hc, List.getD_eq_getElem?_getD, List.getElem?_eq_getElem (by omega)]; rfl, hst, ⟨by rw [List.length_set]; exact h.len, fun i' v' l' hv' hl' => ?_, h.apart⟩, hk⟩
  by_cases hii : i' = i
  · subst hii
    rw [hv] at hv'; cases hv'
    have hil := (List.getElem?_eq_some_iff.1 hl).1
    rw [List.getElem?_set_self hil] at hl'; cases hl'
    have : (bs l).set j (.int .u8 (x.toNat : Int)) = bs (l.set j x) := by simp [bs, List.map_set]
    rw [this] at ho; exact ho
  · rw [List.getElem?_set_ne (Ne.symm hii)] at hl'
    exact own_keep (h.row i' v' l' hv' hl') hk (fun b hb hh => h.apart i i' v v' hv hv' (Ne.symm hii) b hh hb)
theorem own_one (w : World) (B : Nat) (hB : B ≤ w.heap.size) (el : TypeId) (z : Value) : (w.alloc (.cells #[z] el)).ownsRow B el 1 (.slice (some ⟨w.heap.size, 0, none⟩) 1 1) 1 [z] :=
  ⟨by simp, .inr ⟨w.heap.size, 1, _, rfl, hB, heap_alloc_new w _, Nat.le_refl _, by unfold maxLen; omega, by simp, by simp⟩⟩
theorem firstc_spec {w : World} {m k : Nat} (hc : w.cell? ⟨m, 1, none⟩ = some (.int .i64 k)) (hk : k ≤ 100000) : Calls Tryz.prog 13 #[.pointer (some ⟨m, 0, none⟩)] w (Ret fun v w' => v = .int .i64 ((3 + k / 8 : Nat) : Int) ∧ w' = w) := by
  apply enter13
  apply R_in
  simp (maxSteps := 1000000) (disch := omega) only [↓sy1, sy2, sy3, readOK, sy5, sy6, Nat.reduceEqDiff, ↓reduceIte, sy7, sy8, sy9, sya, oneOf, syb, syc, Nat.reduceAdd, Nat.reduceMul, syd, sye, syf, syg, syh, reduceCtorEq, F13, hc, tdiv8]
  exact R_out (congrArg (Value.int .i64) (by omega))
/-- The pages as they are made, behind the bits of the first n pages. -/
def made0 (N k : Nat) : List (List UInt8) := superB N k :: List.replicate (2 + k / 8) zsec
def madeN (N k n : Nat) : List (List UInt8) := ((made0 N k).set 1 oneRow).set 2 (bitRow n)
theorem made0_length (N k : Nat) : (made0 N k).length = 3 + k / 8 := by simp [made0]; omega
theorem madeN_length (N k n : Nat) : (madeN N k n).length = 3 + k / 8 := by rw [madeN, List.length_set, List.length_set, made0_length]
theorem madeN_zero {N k : Nat} : madeN N k 0 = (made0 N k).set 1 oneRow := by
  unfold madeN bitRow
  refine List.ext_getElem? fun i => ?_
  rw [List.getElem?_set]
  split
  · rename_i h; subst h
    rw [List.length_set, made0_length, if_pos (by omega), List.getElem?_set_ne (by omega), made0]
    rw [show (2 : Nat) = 1 + 1 from rfl, List.getElem?_cons_succ, List.getElem?_replicate, if_pos (by omega)]
  · rfl
theorem madeN_row {N k n : Nat} : (madeN N k n)[2]? = some (bitRow n) := List.getElem?_set_self (by rw [List.length_set, made0_length]; omega)
theorem madeN_step {N k n : Nat} (b : List UInt8) (h : b = bitRow (n + 1)) : (madeN N k n).set 2 b = madeN N k (n + 1) := by
  rw [madeN, List.set_set, h]; rfl
theorem madeN_len512 {N k n i : Nat} {l : List UInt8} (h : (madeN N k n)[i]? = some l) : l.length = 512 := by
  have h1 := List.mem_of_getElem? h
  unfold madeN made0 at h1
  rcases List.mem_or_eq_of_mem_set h1 with h1 | rfl
  · rcases List.mem_or_eq_of_mem_set h1 with h1 | rfl
    · rcases List.mem_cons.1 h1 with rfl | h1
      · exact superB_length _ _
      · rw [(List.mem_replicate.1 h1).2]; exact zsec_length
    · exact oneRow_length
  · exact bitRow_length _
theorem madeN_get (N k n : Nat) : (madeN N k n).getD 0 [] = superB N k ∧ (madeN N k n).getD 1 [] = oneRow ∧ (madeN N k n).getD 2 [] = bitRow n := by
  refine ⟨?_, ?_, ?_⟩
  · rw [List.getD_eq_getElem?_getD, madeN, List.getElem?_set_ne (by omega), List.getElem?_set_ne (by omega)]; rfl
  · rw [List.getD_eq_getElem?_getD, madeN, List.getElem?_set_ne (by omega), List.getElem?_set_self (by rw [made0_length]; omega)]; rfl
  · rw [List.getD_eq_getElem?_getD, madeN_row]; rfl
section
variable {G : Gh} {κ μ p lq came : Nat} {w : World} {c : Csh}
theorem make_bad (h : CacheS G κ μ w p lq came c) {k : Int} (hk : ¬ mayA c.N k) :
    Calls Tryz.prog 8 #[.pointer (some ⟨p, 0, none⟩), .int .i64 k] w (Ret fun v w' => v = .tuple #[.pointer none, .int .i64 2] ∧ Grow w w') := by
  apply enter8
  apply R_in
  simp (maxSteps := 1000000) (disch := omega) only [↓sy1, sy2, sy3, readOK, sy5, sy6, Nat.reduceEqDiff, ↓reduceIte, sy7, sy8, sy9, sya, oneOf, syb, syc, Nat.reduceAdd, Nat.reduceMul, syd, sye, syf, syg, syh, reduceCtorEq, F8]
  refine call0 (cslog_spec h) ?_
  rintro _ w1 ⟨rfl, rfl⟩
  simp (maxSteps := 1000000) (disch := omega) only [↓sy1, sy2, sy3, readOK, sy5, sy6, Nat.reduceEqDiff, ↓reduceIte, sy7, sy8, sy9, sya, oneOf, syb, syc, Nat.reduceAdd, Nat.reduceMul, syd, sye, syf, syg, syh, reduceCtorEq]
  obtain ⟨row, hca⟩ := id h
  refine call0 (pages_spec hca.2.log) ?_
  rintro _ w2 ⟨rfl, hg2⟩
  rw [show ((c.D.first.length - c.size - 1 : Nat) : Int) = (c.N : Int) from rfl]
  simp (maxSteps := 1000000) (disch := omega) only [↓sy1, sy2, sy3, readOK, sy5, sy6, Nat.reduceEqDiff, ↓reduceIte, sy7, sy8, sy9, sya, oneOf, syb, syc, Nat.reduceAdd, Nat.reduceMul, syd, sye, syf, syg, syh, reduceCtorEq]
  refine call0 (may_spec (a := c.N) (b := k)) ?_
  rintro _ w3 ⟨rfl, rfl⟩
  simp (maxSteps := 1000000) (disch := omega) only [↓sy1, sy2, sy3, readOK, sy5, sy6, Nat.reduceEqDiff, ↓reduceIte, sy7, sy8, sy9, sya, oneOf, syb, syc, Nat.reduceAdd, Nat.reduceMul, syd, sye, syf, syg, syh, reduceCtorEq, decide_eq_false hk]
  exact R_out hg2
set_option maxHeartbeats 8000000 in
theorem make_spec (h : CacheS G κ μ w p lq came c) (hn6 : κ ≠ 6 ∧ μ ≠ 6) {k : Nat} (hk : mayA c.N k) (hroom : c.dirty.length + (3 + k / 8) ≤ c.cap) :
    Calls Tryz.prog 8 #[.pointer (some ⟨p, 0, none⟩), .int .i64 k] w (Ret fun v w' => ∃ m G', v = .tuple #[.pointer (some ⟨m, 0, none⟩), .int .i64 0] ∧ w.heap.size ≤ m ∧
      MapAt G' κ μ w' m p lq came (wrN c (madeN c.N k (3 + k / 8)) (3 + k / 8)) (upto1 (3 + k / 8) c.N) (upto1 1 k) ∧ Ext (fun x => x = μ) G w G' w') := by
  have hk' := hk
  unfold mayA at hk'
  have hne := h.ne
  have hF := made0_length c.N k
  apply enter8
  apply R_in
  simp (maxSteps := 1000000) (disch := omega) only [↓sy1, sy2, sy3, readOK, sy5, sy6, Nat.reduceEqDiff, ↓reduceIte, sy7, sy8, sy9, sya, oneOf, syb, syc, Nat.reduceAdd, Nat.reduceMul, syd, sye, syf, syg, syh, reduceCtorEq, F8]
  refine call0 (cslog_spec h) ?_
  rintro _ w1 ⟨rfl, rfl⟩
  simp (maxSteps := 1000000) (disch := omega) only [↓sy1, sy2, sy3, readOK, sy5, sy6, Nat.reduceEqDiff, ↓reduceIte, sy7, sy8, sy9, sya, oneOf, syb, syc, Nat.reduceAdd, Nat.reduceMul, syd, sye, syf, syg, syh, reduceCtorEq]
  obtain ⟨row, hca⟩ := id h
  refine call0 (pages_spec hca.2.log) ?_
  rintro _ w2 ⟨rfl, hg2⟩
  rw [show ((c.D.first.length - c.size - 1 : Nat) : Int) = (c.N : Int) from rfl]
  clear hca
  simp (maxSteps := 1000000) (disch := omega) only [↓sy1, sy2, sy3, readOK, sy5, sy6, Nat.reduceEqDiff, ↓reduceIte, sy7, sy8, sy9, sya, oneOf, syb, syc, Nat.reduceAdd, Nat.reduceMul, syd, sye, syf, syg, syh, reduceCtorEq]
  refine call0 (may_spec (a := c.N) (b := k)) ?_
  rintro _ w2 ⟨rfl, rfl⟩
  simp (maxSteps := 1000000) (disch := omega) only [↓sy1, sy2, sy3, readOK, sy5, sy6, Nat.reduceEqDiff, ↓reduceIte, sy7, sy8, sy9, sya, oneOf, syb, syc, Nat.reduceAdd, Nat.reduceMul, syd, sye, syf, syg, syh, reduceCtorEq, decide_eq_true hk, fill_gen, fillF_2 (u := .pointer (some ⟨p, 0, none⟩)) (v := .int .i64 (k : Int)) rfl rfl, agg2_cells (x := .pointer (some ⟨p, 0, none⟩)) (y := .int .i64 (k : Int)) rfl rfl]
  have hg3 : Grow w2 (w2.alloc (.cells #[.pointer (some ⟨p, 0, none⟩), .int .i64 (k : Int)] 61)) := (Keep.refl _ _).alloc _
  have hb3 := heap_alloc_new w2 (.cells #[.pointer (some ⟨p, 0, none⟩), .int .i64 (k : Int)] 61)
  have hmB : w1.heap.size ≤ w2.heap.size := hg2.size
  generalize w2.alloc (.cells #[.pointer (some ⟨p, 0, none⟩), .int .i64 (k : Int)] 61) = w3 at hg3 hb3 ⊢
  generalize w2.heap.size = m at hb3 hmB ⊢
  have hmc : ∀ {w'}, Grow w3 w' → w'.cell? ⟨m, 1, none⟩ = some (.int .i64 k) := fun hg => by rw [cell_block (hg.gheap hb3)]; rfl
  have hg03 : Grow w1 w3 := hg2.trans hg3
  refine call0 (super_spec (a := c.N) (b := k) (by omega) (by omega)) ?_
  rintro sv w4 ⟨hsv, hg4⟩
  have hsc := (Has.own hsv).isCell
  simp (maxSteps := 1000000) (disch := omega) only [↓sy1, sy2, sy3, readOK, sy5, sy6, Nat.reduceEqDiff, ↓reduceIte, sy7, sy8, sy9, sya, oneOf, syb, syc, Nat.reduceAdd, Nat.reduceMul, syd, sye, syf, syg, syh, reduceCtorEq, fill_one, oneF_cell hsc]
  have hg5 : Grow w4 (w4.alloc (.cells #[sv] 62)) := (Keep.refl _ _).alloc _
  have ho5 := own_one w4 w4.heap.size (Nat.le_refl _) 62 sv
  generalize w4.alloc (.cells #[sv] 62) = w5 at hg5 ho5 ⊢
  generalize (Value.slice (some ⟨w4.heap.size, 0, none⟩) 1 1) = lv at ho5 ⊢
  have hg35 : Grow w3 w5 := hg4.trans hg5
  have hD5 : DRows w3.heap.size w5 [sv] [superB c.N k] := by
    refine ⟨rfl, fun i v l hv hl => ?_, fun i j v u hv hu hij => ?_⟩
    · match i, hv, hl with
      | 0, hv, hl => simp at hv hl; subst hv; subst hl; exact own_grow hsv hg5
      | i + 1, hv, _ => simp at hv
    · match i, j, hv, hu with
      | 0, 0, _, _ => exact absurd rfl hij
      | 0, j + 1, _, hu => simp at hu
      | i + 1, _, hv, _ => simp at hv
  refine call0 (firstc_spec (hmc hg35) (by omega)) ?_
  rintro _ w6 ⟨rfl, rfl⟩
  have hsub : ((3 + k / 8 : Nat) : Int) - 1 = ((2 + k / 8 : Nat) : Int) := by omega
  simp (maxSteps := 1000000) (disch := omega) only [↓sy1, sy2, sy3, readOK, sy5, sy6, Nat.reduceEqDiff, ↓reduceIte, sy7, sy8, sy9, sya, oneOf, syb, syc, Nat.reduceAdd, Nat.reduceMul, syd, sye, syf, syg, syh, reduceCtorEq, hsub]
  refine loop_rule (fun e w' => ∃ (i : Nat) (vs : List Value), i ≤ 2 + k / 8 ∧ e 32 = .int .i64 i ∧ e 31 = .int .i64 ((2 + k / 8 : Nat) : Int) ∧ e 0 = .pointer (some ⟨p, 0, none⟩) ∧ e 1 = .int .i64 k ∧ e 7 = .pointer (some ⟨m, 0, none⟩) ∧ vs.length = i + 1 ∧ w'.ownsRow w3.heap.size 62 1 (e 8) (i + 1) vs ∧ DRows w3.heap.size w' vs (superB c.N k :: List.replicate i zsec) ∧ Grow w3 w') (fun e _ => 2 + k / 8 - (intOf (e 32)).toNat)
    ⟨0, [sv], by omega, by simp [upd, updO, ev], by simp [upd, updO, ev], by simp [upd, updO, ev], by simp [upd, updO, ev], by simp [upd, updO, ev], rfl, by simpa [upd, updO, ev] using own_base ho5 (by have := hg4.size; omega), hD5, hg35⟩ ?_
  clear hD5 ho5 hsv hsc
  rintro e w7 ⟨i, vs, hi, e32, e31, e0, e1, e7, hvl, ho7, hD7, hg7⟩
  by_cases hlt : i < 2 + k / 8
  · simp (maxSteps := 1000000) (disch := omega) only [↓sy1, sy2, sy3, readOK, sy5, sy6, Nat.reduceEqDiff, ↓reduceIte, sy7, sy8, sy9, sya, oneOf, syb, syc, Nat.reduceAdd, Nat.reduceMul, syd, sye, syf, syg, syh, reduceCtorEq, F8_L0, e32, e31, e0, e1, e7, Int.ofNat_lt, hlt, decide_true]
    refine mkz_rule (fun zv w8 hg8 hz => ?_)
    have hzc := (Has.own hz).isCell
    simp (maxSteps := 1000000) (disch := omega) only [↓sy1, sy2, sy3, readOK, sy5, sy6, Nat.reduceEqDiff, ↓reduceIte, sy7, sy8, sy9, sya, oneOf, syb, syc, Nat.reduceAdd, Nat.reduceMul, syd, sye, syf, syg, syh, reduceCtorEq, fill_one, oneF_cell hzc]
    have hga : Grow w8 (w8.alloc (.cells #[zv] 62)) := (Keep.refl _ _).alloc _
    have hD8 := hD7.snoc hg8 hg7.size hz
    refine app_own elemR (by simp only [upd_at, Nat.reduceEqDiff, reduceIte, ev_tmp, ev_const, List.map_cons, List.map_nil]) (by simp only [upd_at, Nat.reduceEqDiff, reduceIte, ev_tmp, ev_const, List.map_cons, List.map_nil]) (own_grow (own_grow ho7 hg8) hga) Has.new1 (m := 1) rfl (by simpa using hzc) (by omega) (by omega) (by have := hga.size; have := hg8.size; have := hg7.size; omega) ?_
    intro lv' w9 ho9 hg9
    simp (maxSteps := 1000000) (disch := omega) only [↓sy1, sy2, sy3, readOK, sy5, sy6, Nat.reduceEqDiff, ↓reduceIte, sy7, sy8, sy9, sya, oneOf, syb, syc, Nat.reduceAdd, Nat.reduceMul, syd, sye, syf, syg, syh, reduceCtorEq, e32, e31, e0, e1, e7]
    have hkk := Keep.grown hg9
    refine R_out ⟨⟨i + 1, vs ++ [zv], by omega, rfl, by simp [hvl], ho9, ?_, ((hg7.trans hg8).trans hga).then hkk (fun b hb hh => ?_)⟩, by simp only [intOf]; omega⟩
    · rw [show (superB c.N k :: List.replicate (i + 1) zsec) = (superB c.N k :: List.replicate i zsec) ++ [zsec] from by rw [List.replicate_succ']; rfl]
      refine (hD8.grow hga).keep hkk (fun v hv b hb hh => ?_)
      obtain ⟨j, hj, rfl⟩ := List.getElem_of_mem hv
      have hrow := (hD8.grow hga).row j _ (((superB c.N k :: List.replicate i zsec) ++ [zsec])[j]'(by rw [← hD8.len]; exact hj)) (List.getElem?_eq_getElem hj) (List.getElem?_eq_getElem _)
      exact own_ne hrow (own_grow (own_grow ho7 hg8) hga) (by decide) hb hh.symm
    · have := (World.ownsRow.lt ho7 b hh.symm).1; omega
  have hie : i = 2 + k / 8 := by omega
  subst hie
  rw [show 2 + k / 8 + 1 = 3 + k / 8 from by omega] at ho7 hvl
  have hD7 : DRows w3.heap.size w7 vs (made0 c.N k) := hD7
  obtain ⟨lv1, e8⟩ : ∃ lv1, e 8 = lv1 := ⟨_, rfl⟩
  rw [e8] at ho7
  obtain ⟨a1, ha1, hc1, _⟩ := (Has.own ho7).idx (i := 1) (by omega)
  have ha1 : iaF 1 lv1 (.int .i64 1) = some (.pointer (some a1)) := ha1
  obtain ⟨a2, w8, ha2, hc2, hst, hD8, hk8⟩ := hD7.store (i := 1) (j := 0) (l := zsec) (List.getElem?_eq_getElem (by omega)) (by rw [made0, show (1 : Nat) = 0 + 1 from rfl, List.getElem?_cons_succ, List.getElem?_replicate, if_pos (by omega)]) (by omega) zsec_length 1
  have ha2 : iaF 1 (vs[1]'(by omega)) (.int .i64 0) = some (.pointer (some a2)) := ha2
  have hst : stF w7 (.pointer (some a2)) (.int .u8 1) = some (undef, w8) := hst
  have hD8 : DRows w3.heap.size w8 vs (madeN c.N k 0) := by rw [madeN_zero]; exact hD8
  have hvB : ∀ v ∈ vs, ∀ b, v.ownBlock = some b → w3.heap.size ≤ b := fun v hv b hb => (hD8.lt hv hb).1
  have hne8 : ∀ v ∈ vs, ∀ b, lv1.ownBlock = some b → v.ownBlock ≠ some b := fun v hv b hb hh => by
    obtain ⟨j, hj, rfl⟩ := List.getElem_of_mem hv
    have hrow := hD7.row j _ ((made0 c.N k)[j]'(by rw [← hD7.len]; exact hj)) (List.getElem?_eq_getElem hj) (List.getElem?_eq_getElem _)
    exact own_ne hrow ho7 (by decide) hh hb
  have ho8 := own_keep ho7 hk8 (fun b hb hh => hne8 _ (List.getElem_mem _) b hb hh)
  have hg8 : Grow w3 w8 := hg7.then hk8 (fun b hb hh => by have := hvB _ (List.getElem_mem _) b hh; omega)
  simp (maxSteps := 1000000) (disch := omega) only [↓sy1, sy2, sy3, readOK, sy5, sy6, Nat.reduceEqDiff, ↓reduceIte, sy7, sy8, sy9, sya, oneOf, syb, syc, Nat.reduceAdd, Nat.reduceMul, syd, sye, syf, syg, syh, reduceCtorEq, F8_L0, e32, e31, e0, e1, e7, e8, Int.ofNat_lt, Nat.lt_irrefl, decide_false, ha1, hc1, ha2, hst]
  refine call0 (firstc_spec (hmc hg8) (by omega)) ?_
  rintro _ w8 ⟨rfl, rfl⟩
  simp (maxSteps := 1000000) (disch := omega) only [↓sy1, sy2, sy3, readOK, sy5, sy6, Nat.reduceEqDiff, ↓reduceIte, sy7, sy8, sy9, sya, oneOf, syb, syc, Nat.reduceAdd, Nat.reduceMul, syd, sye, syf, syg, syh, reduceCtorEq]
  clear hD7 ho7 hc1 hst hk8 hg7 e32 e31 hc2
  refine loop_rule (fun e w' => ∃ i : Nat, i ≤ 3 + k / 8 ∧ e 45 = .int .i64 i ∧ e 44 = .int .i64 ((3 + k / 8 : Nat) : Int) ∧ e 0 = .pointer (some ⟨p, 0, none⟩) ∧ e 7 = .pointer (some ⟨m, 0, none⟩) ∧ e 8 = lv1 ∧ w'.ownsRow w3.heap.size 62 1 lv1 (3 + k / 8) vs ∧ DRows w3.heap.size w' vs (madeN c.N k i) ∧ Grow w3 w') (fun e _ => 3 + k / 8 - (intOf (e 45)).toNat)
    ⟨0, by omega, by simp [upd, updO, ev], by simp [upd, updO, ev], by simp [upd, updO, ev, e0], by simp [upd, updO, ev, e7], by simp [upd, updO, ev, e8], ho8, hD8, hg8⟩ ?_
  clear e0 e1 e7 e8 ho8 hD8 hg8
  rintro e w9 ⟨i, hi, e45, e44, e0, e7, e8, ho9, hD9, hg9⟩
  by_cases hlt : i < 3 + k / 8
  · simp (maxSteps := 1000000) (disch := omega) only [↓sy1, sy2, sy3, readOK, sy5, sy6, Nat.reduceEqDiff, ↓reduceIte, sy7, sy8, sy9, sya, oneOf, syb, syc, Nat.reduceAdd, Nat.reduceMul, syd, sye, syf, syg, syh, reduceCtorEq, F8_L1, e45, e44, e0, e7, e8, Int.ofNat_lt, hlt, decide_true]
    refine draw8_0 (fun _ => False) ?_
    have hgd : Grow w9 w9.drew := (Keep.refl _ _).drew
    have ho10 := own_grow ho9 hgd
    have hD10 := hD9.grow hgd
    have hg10 := hg9.trans hgd
    generalize w9.drew = w10 at hgd ho10 hD10 hg10 ⊢
    obtain ⟨a1, ha1, hc1, _⟩ := (Has.own ho10).idx (i := 2) (by omega)
    have ha1 : iaF 1 lv1 (.int .i64 2) = some (.pointer (some a1)) := ha1
    have hbl := bitRow_length i
    obtain ⟨z, hz1, hz2⟩ := shl_or (x := (bitRow i).getD (i / 8) 0) (i := i % 8) (by omega)
    obtain ⟨a2, w11, ha2, hc2, hst, hD11, hk11⟩ := hD10.store (i := 2) (j := i / 8) (l := bitRow i) (List.getElem?_eq_getElem (by omega)) madeN_row (by omega) hbl (UInt8.ofNat (((bitRow i).getD (i / 8) 0).toNat ||| 2 ^ (i % 8)))
    rw [madeN_step ((bitRow i).set (i / 8) (UInt8.ofNat (((bitRow i).getD (i / 8) 0).toNat ||| 2 ^ (i % 8)))) rfl] at hD11
    simp (maxSteps := 1000000) (disch := omega) only [↓sy1, sy2, sy3, readOK, sy5, sy6, Nat.reduceEqDiff, ↓reduceIte, sy7, sy8, sy9, sya, oneOf, syb, syc, Nat.reduceAdd, Nat.reduceMul, syd, sye, syf, syg, syh, reduceCtorEq, PL8_0, e45, e44, e0, e7, e8, ha1, hc1, tdiv8, tmod8, ha2, hc2, hz1, hz2, hst]
    have ho11 := own_keep ho10 hk11 (fun b hb hh => hne8 _ (List.getElem_mem _) b hb hh)
    exact R_out ⟨⟨i + 1, by omega, rfl, ho11, hD11, hg10.then hk11 (fun b hb hh => by have := hvB _ (List.getElem_mem _) b hh; omega)⟩, by simp only [intOf]; omega⟩
  have hie : i = 3 + k / 8 := by omega
  subst hie
  simp (maxSteps := 1000000) (disch := omega) only [↓sy1, sy2, sy3, readOK, sy5, sy6, Nat.reduceEqDiff, ↓reduceIte, sy7, sy8, sy9, sya, oneOf, syb, syc, Nat.reduceAdd, Nat.reduceMul, syd, sye, syf, syg, syh, reduceCtorEq, F8_L1, e45, e44, e0, e7, e8, Int.ofNat_lt, Nat.lt_irrefl, decide_false]
  refine call0 (firstc_spec (hmc hg9) (by omega)) ?_
  rintro _ w9 ⟨rfl, rfl⟩
  simp (maxSteps := 1000000) (disch := omega) only [↓sy1, sy2, sy3, readOK, sy5, sy6, Nat.reduceEqDiff, ↓reduceIte, sy7, sy8, sy9, sya, oneOf, syb, syc, Nat.reduceAdd, Nat.reduceMul, syd, sye, syf, syg, syh, reduceCtorEq]
  refine call0 (numbers_spec (n := 3 + k / 8) (by omega)) ?_
  rintro nv w10 ⟨hnv, hg10⟩
  have hg310 := hg9.trans hg10
  have hg010 := hg03.trans hg310
  have hx10 : Ext0 G w1 (G.upto w1.heap.size (fun _ => 0) (fun _ => maxLen)) w10 := .upto hg010 _ _
  have hown : ∀ b, w1.heap.size ≤ b → (G.upto w1.heap.size (fun _ => 0) (fun _ => maxLen)).own b = 0 := fun b hb => (upto_own hb).1
  have hM10 : MapC (G.upto w1.heap.size (fun _ => 0) (fun _ => maxLen)) κ μ w10 m p lq came c k := ⟨h.ext hx10 id id id, hg310.gheap hb3, hown m hmB, hn6, by omega, by omega⟩
  have hD10 := hD9.grow hg10
  have ho10 := own_grow ho9 hg10
  have hlv : Zero (G.upto w1.heap.size (fun _ => 0) (fun _ => maxLen)) w10 lv1 vs := ⟨Has.own ho10, fun b hb _ => ⟨(World.ownsRow.lt ho10 b hb).2, hown b (by have := (World.ownsRow.lt ho10 b hb).1; have := hg03.size; omega)⟩⟩
  have hrows : ∀ (i : Nat) (v : Value) (l : List UInt8), vs[i]? = some v → (madeN c.N k (3 + k / 8))[i]? = some l → Zero (G.upto w1.heap.size (fun _ => 0) (fun _ => maxLen)) w10 v (bs l) := fun i v l hv hl => by
    have hrow := hD10.row i v l hv hl
    exact ⟨Has.own hrow, fun b hb _ => ⟨(World.ownsRow.lt hrow b hb).2, hown b (by have := (World.ownsRow.lt hrow b hb).1; have := hg03.size; omega)⟩⟩
  generalize (G.upto w1.heap.size (fun _ => 0) (fun _ => maxLen)) = G10 at hx10 hM10 hlv hrows
  simp (maxSteps := 1000000) (disch := omega) only [↓sy1, sy2, sy3, readOK, sy5, sy6, Nat.reduceEqDiff, ↓reduceIte, sy7, sy8, sy9, sya, oneOf, syb, syc, Nat.reduceAdd, Nat.reduceMul, syd, sye, syf, syg, syh, reduceCtorEq]
  refine call0 (fits_spec hM10 (l := zs (List.range (3 + k / 8))) hnv (by simp [zs]; omega)) ?_
  rintro _ w11 ⟨rfl, hg11⟩
  have hlenl : ∀ w', lenF w' 0 lv1 = some (.int .i64 ((3 + k / 8 : Nat) : Int)) := fun w' => by rw [hlv.1.len, hvl]
  simp (maxSteps := 1000000) (disch := omega) only [↓sy1, sy2, sy3, readOK, sy5, sy6, Nat.reduceEqDiff, ↓reduceIte, sy7, sy8, sy9, sya, oneOf, syb, syc, Nat.reduceAdd, Nat.reduceMul, syd, sye, syf, syg, syh, reduceCtorEq, e0, e7, e8, fits_room (c := c) (l := zs (List.range (3 + k / 8))) (by simp [zs]; omega), hlenl]
  have hx0 : Ext0 G10 w10 G10 w11 := .grow hg11
  refine loop_rule (fun e w' => ∃ (i : Nat) (G' : Gh), i ≤ 3 + k / 8 ∧ e 69 = .int .i64 i ∧ e 68 = .int .i64 ((3 + k / 8 : Nat) : Int) ∧ e 67 = lv1 ∧ e 0 = .pointer (some ⟨p, 0, none⟩) ∧ e 7 = .pointer (some ⟨m, 0, none⟩) ∧
      MapC G' κ μ w' m p lq came (wrN c (madeN c.N k (3 + k / 8)) i) k ∧ Zero G' w' lv1 vs ∧ (∀ (i : Nat) (v : Value) (l : List UInt8), vs[i]? = some v → (madeN c.N k (3 + k / 8))[i]? = some l → Zero G' w' v (bs l)) ∧ Ext (fun x => x = μ) G w1 G' w') (fun e _ => 3 + k / 8 - (intOf (e 69)).toNat)
    ⟨0, G10, by omega, by simp [upd, updO, ev], by simp [upd, updO, ev], by simp [upd, updO, ev, e8], by simp [upd, updO, ev, e0], by simp [upd, updO, ev, e7], hM10.grow hg11, hlv.ext hx0 id, fun i v l hv hl => (hrows i v l hv hl).ext hx0 id, (hx10.trans hx0).mono (fun _ h => h.elim)⟩ ?_
  clear e0 e7 e8 e45 e44 hlv hrows hM10 hx10 hx0
  rintro e w12 ⟨i, G12, hi, e69, e68, e67, e0, e7, hM12, hlv, hrows, hx12⟩
  by_cases hlt : i < 3 + k / 8
  · have hml := madeN_length c.N k (3 + k / 8)
    obtain ⟨a1, ha1, hc1, _⟩ := hlv.1.idx (i := i) (by omega)
    have hli : (madeN c.N k (3 + k / 8))[i]? = some ((madeN c.N k (3 + k / 8)).getD i []) := by rw [List.getD_eq_getElem?_getD, List.getElem?_eq_getElem (by omega)]; rfl
    have hl5 := madeN_len512 hli
    have hrow := hrows i vs[i] _ (List.getElem?_eq_getElem (by omega)) hli
    have hwd := wrN_dirty (c := c) (ls := madeN c.N k (3 + k / 8)) i (by omega)
    have hwN := wrN_N c (madeN c.N k (3 + k / 8)) i
    have hcap : (wrN c (madeN c.N k (3 + k / 8)) i).cap = c.cap := by simp only [Csh.cap, hwN.2.2.1]
    have hcode : (wrN c (madeN c.N k (3 + k / 8)) i).wcode i 512 = 0 := wcode_zero (by rw [hwN.1]; omega) rfl (fun _ => by rw [hcap]; omega)
    simp (maxSteps := 1000000) (disch := omega) only [↓sy1, sy2, sy3, readOK, sy5, sy6, Nat.reduceEqDiff, ↓reduceIte, sy7, sy8, sy9, sya, oneOf, syb, syc, Nat.reduceAdd, Nat.reduceMul, syd, sye, syf, syg, syh, reduceCtorEq, F8_L2, e69, e68, e67, e0, e7, Int.ofNat_lt, hlt, decide_true, ha1, hc1]
    refine call0 (cswrite_spec hM12.cache (n := i) (b := (madeN c.N k (3 + k / 8)).getD i []) hrow.1 (by omega)) ?_
    rintro _ w13 ⟨rfl, G13, hc13, hx13⟩
    rw [hl5, if_pos hcode] at hc13
    have h0 : ¬ (0 = μ) := fun hh => hne.2.1 hh.symm
    simp (maxSteps := 1000000) (disch := omega) only [↓sy1, sy2, sy3, readOK, sy5, sy6, Nat.reduceEqDiff, ↓reduceIte, sy7, sy8, sy9, sya, oneOf, syb, syc, Nat.reduceAdd, Nat.reduceMul, syd, sye, syf, syg, syh, reduceCtorEq, e69, e68, e67, e0, e7]
    exact R_out ⟨⟨i + 1, G13, by omega, rfl, hM12.put hx13 h0 hc13 rfl, hlv.ext hx13 h0, fun i v l hv hl => (hrows i v l hv hl).ext hx13 h0, hx12.trans hx13⟩, by simp only [intOf]; omega⟩
  have hie : i = 3 + k / 8 := by omega
  subst hie
  simp (maxSteps := 1000000) (disch := omega) only [↓sy1, sy2, sy3, readOK, sy5, sy6, Nat.reduceEqDiff, ↓reduceIte, sy7, sy8, sy9, sya, oneOf, syb, syc, Nat.reduceAdd, Nat.reduceMul, syd, sye, syf, syg, syh, reduceCtorEq, F8_L2, e69, e68, e67, e0, e7, Int.ofNat_lt, Nat.lt_irrefl, decide_false]
  obtain ⟨g0, g1, g2⟩ := madeN_get c.N k (3 + k / 8)
  refine R_out ⟨m, G12, rfl, by omega, ⟨?_, Alc.made hk g0 g1 g2⟩, hx12⟩
  rw [upto1_length]; exact hM12
end
end Go.Proofs.YtbnecclognibaaaGreat

/- A map is opened; a cache for the laws; what must be whatever is asked. -/
namespace Go.Proofs.YtbnecclognibaaaGreat
open Go
set_option linter.unusedSimpArgs false
open Go.RowKit (intOf)
def beN (l : List UInt8) : Nat := l.foldl (fun n x => n * 256 + x.toNat) 0
theorem beN_snoc {l : List UInt8} {i : Nat} (h : i < l.length) : beN (l.take (i + 1)) = beN (l.take i) * 256 + l[i].toNat := by
  rw [List.take_add_one, List.getElem?_eq_getElem h, beN, List.foldl_append]; rfl
def inoOf (b : List UInt8) : Nat := beN ((b.drop 8).take 4)
theorem inoOf_super {N k : Nat} (hk : k ≤ 512) : inoOf (superB N k) = k := by
  have h1 : ((superB N k).drop 8).take 4 = super4 k := rfl
  rw [inoOf, h1, super4, beN]
  simp only [List.foldl_cons, List.foldl_nil, UInt8.toNat_ofNat']
  omega
theorem shl_256 {n : Nat} (h : n < 16777216) : binV .shl (.int .i64 (n : Int)) (.int .u64 8) = some (.int .i64 ((n * 256 : Nat) : Int)) := by
  simp only [binV]
  rw [if_neg (by omega)]
  have h8 : (2 : Int) ^ (min (Int.toNat 8) IntKind.i64.bits) = 256 := by decide
  rw [h8, wrap_i64 (by omega)]
  congr 2
theorem or_256 {a b : Nat} (ha : a < 16777216) (hb : b < 256) : binV .or (.int .i64 ((a * 256 : Nat) : Int)) (.int .i64 (b : Int)) = some (.int .i64 ((a * 256 + b : Nat) : Int)) := by
  simp only [binV, if_true]
  have h1 : (BitVec.ofInt IntKind.i64.bits ((a * 256 : Nat) : Int) ||| BitVec.ofInt IntKind.i64.bits (b : Int)).toNat = a * 256 + b := by
    rw [BitVec.toNat_or, BitVec.ofInt_natCast, BitVec.ofInt_natCast, BitVec.toNat_ofNat, BitVec.toNat_ofNat]
    have hbits : (2 : Nat) ^ IntKind.i64.bits = 18446744073709551616 := by decide
    rw [hbits, Nat.mod_eq_of_lt (by omega), Nat.mod_eq_of_lt (by omega)]
    have := Nat.shiftLeft_add_eq_or_of_lt (i := 8) (show b < 2 ^ 8 by omega) a
    rw [Nat.shiftLeft_eq] at this
    exact this.symm
  rw [h1, wrap_i64 (by omega)]
/-- A part of a slice. -/
theorem own_mid {B : Nat} {el : TypeId} {w : World} {v : Value} {xs : List Value} (h : w.ownsRow B el 1 v 512 xs) : ∃ v', slcF 1 v (some (.int .i64 8)) (some (.int .i64 12)) none = some v' ∧ Has 1 w v' ((xs.drop 8).take 4) := by
  obtain ⟨h0, ⟨_, h2⟩ | ⟨g, cap, cur, rfl, h2, h3, h4, h5, h6, h7⟩⟩ := h
  · omega
  refine ⟨.slice (some ⟨g, 8, none⟩) 4 (cap - 8), ?_, .inl ⟨g, 8, 4, cap - 8, rfl, by simp [h0], by omega, fun j u hj => ?_⟩⟩
  · have h12 : (12 : Nat) ≤ cap := by omega
    simp [slcF, slcV, bndV, add_lit, show (12 : Int) ≤ (cap : Int) from by omega]
    omega
  · rw [cell_block h3]
    have hj4 : j < 4 := by
      have := (List.getElem?_eq_some_iff.1 hj).1
      simp at this; omega
    rw [List.getElem?_take, if_pos hj4, List.getElem?_drop, ← h7, List.getElem?_take, if_pos (by omega)] at hj
    rw [Array.getElem?_eq_some_iff] 
    rw [List.getElem?_eq_some_iff] at hj
    obtain ⟨hl, hv⟩ := hj
    exact ⟨by simpa using hl, by simpa using hv⟩
section
variable {G : Gh} {κ μ p lq came : Nat} {w : World} {c : Csh}
/-- What Open answers. -/
def OpenR (G : Gh) (κ μ : Nat) (w : World) (m0 p lq came : Nat) (c : Csh) (v : Value) : Prop :=
  (mayA c.N (inoOf (c.page 0)) ∧ c.page 0 = superB c.N (inoOf (c.page 0)) ∧ ∃ m, v = .tuple #[.pointer (some ⟨m, 0, none⟩), .int .i64 0] ∧ m0 ≤ m ∧ MapC G κ μ w m p lq came c (inoOf (c.page 0))) ∨
  (¬ (mayA c.N (inoOf (c.page 0)) ∧ c.page 0 = superB c.N (inoOf (c.page 0))) ∧ v = .tuple #[.pointer none, .int .i64 9] ∧ CacheS G κ μ w p lq came c)
set_option maxHeartbeats 2000000 in
theorem aopen_spec (h : CacheS G κ μ w p lq came c) (hn6 : κ ≠ 6 ∧ μ ≠ 6) (hN : 1 ≤ c.N) :
    Calls Tryz.prog 28 #[.pointer (some ⟨p, 0, none⟩)] w (Ret fun v w' => ∃ G', Ext (fun x => x = μ) G w G' w' ∧ OpenR G' κ μ w' w.heap.size p lq came c v) := by
  have hpl := h.oks.plen (n := 0) (by omega)
  apply enter28
  apply R_in
  simp (maxSteps := 1000000) (disch := omega) only [↓sy1, sy2, sy3, readOK, sy5, sy6, Nat.reduceEqDiff, ↓reduceIte, sy7, sy8, sy9, sya, oneOf, syb, syc, Nat.reduceAdd, Nat.reduceMul, syd, sye, syf, syg, syh, reduceCtorEq, F28]
  refine call0 (csread_spec h (n := 0) (by omega)) ?_
  rintro _ w1 ⟨u, G1, rfl, hu, hc1, hx1⟩
  obtain ⟨v4, hv4, hH4⟩ := own_mid hu
  have hsub : ((bs (c.page 0)).drop 8).take 4 = bs (((c.page 0).drop 8).take 4) := by simp [bs, List.map_drop, List.map_take]
  rw [hsub] at hH4
  have hll : (((c.page 0).drop 8).take 4).length = 4 := by rw [List.length_take, List.length_drop]; omega
  have hino : inoOf (c.page 0) = beN (((c.page 0).drop 8).take 4) := rfl
  generalize ((c.page 0).drop 8).take 4 = l4 at hH4 hll hino
  have hlen4 : ∀ w', lenF w' 0 v4 = some (.int .i64 4) := fun w' => by rw [Has.lenB hH4, hll]; rfl
  simp (maxSteps := 1000000) (disch := omega) only [↓sy1, sy2, sy3, readOK, sy5, sy6, Nat.reduceEqDiff, ↓reduceIte, sy7, sy8, sy9, sya, oneOf, syb, syc, Nat.reduceAdd, Nat.reduceMul, syd, sye, syf, syg, syh, reduceCtorEq, hv4, hlen4]
  refine loop_rule (fun e w' => ∃ i : Nat, i ≤ 4 ∧ e 20 = .int .i64 i ∧ e 19 = .int .i64 4 ∧ e 18 = v4 ∧ e 0 = .pointer (some ⟨p, 0, none⟩) ∧ e 4 = u ∧ e 6 = .int .i64 (beN (l4.take i) : Nat) ∧ beN (l4.take i) < 256 ^ i ∧ w1 = w') (fun e _ => 4 - (intOf (e 20)).toNat)
    ⟨0, by omega, by simp [upd, updO, ev], by simp [upd, updO, ev], by simp [upd, updO, ev], by simp [upd, updO, ev], by simp [upd, updO, ev], by simp [upd, updO, ev, beN], by simp [beN], rfl⟩ ?_
  rintro e _ ⟨i, hi, e20, e19, e18, e0, e4, e6, hlt, rfl⟩
  by_cases hi4 : i < 4
  · obtain ⟨a, ha, hc, _⟩ := Has.getB hH4 (i := i) (by omega)
    have hpow : (256 : Nat) ^ i ≤ 16777216 := Nat.le_trans (Nat.pow_le_pow_right (by omega) (show i ≤ 3 by omega)) (by decide)
    have hb := (l4[i]'(by omega)).toNat_lt
    have hbe := beN_snoc (l := l4) (i := i) (by omega)
    simp (maxSteps := 1000000) (disch := omega) only [↓sy1, sy2, sy3, readOK, sy5, sy6, Nat.reduceEqDiff, ↓reduceIte, sy7, sy8, sy9, sya, oneOf, syb, syc, Nat.reduceAdd, Nat.reduceMul, syd, sye, syf, syg, syh, reduceCtorEq, F28_L0, e20, e19, e18, e0, e4, e6, show ((i : Int) < 4) from by omega, decide_true, ha, hc, shl_256 (n := beN (l4.take i)) (by omega), or_256 (a := beN (l4.take i)) (b := (l4[i]'(by omega)).toNat) (by omega) (by omega)]
    refine R_out ⟨⟨i + 1, by omega, rfl, by rw [hbe], ?_⟩, by simp only [intOf]; omega⟩
    rw [hbe, Nat.pow_succ]; omega
  have hi' : i = 4 := by omega
  subst hi'
  rw [List.take_of_length_le (by omega), ← hino] at e6
  rw [List.take_of_length_le (by omega), ← hino] at hlt
  have hnum : (256 : Nat) ^ 4 = 4294967296 := by decide
  simp (maxSteps := 1000000) (disch := omega) only [↓sy1, sy2, sy3, readOK, sy5, sy6, Nat.reduceEqDiff, ↓reduceIte, sy7, sy8, sy9, sya, oneOf, syb, syc, Nat.reduceAdd, Nat.reduceMul, syd, sye, syf, syg, syh, reduceCtorEq, F28_L0, e20, e19, e18, e0, e4, e6, show ¬ (((4 : Nat) : Int) < 4) from by omega, decide_false]
  refine call0 (cslog_spec hc1) ?_
  rintro _ w2 ⟨rfl, rfl⟩
  simp (maxSteps := 1000000) (disch := omega) only [↓sy1, sy2, sy3, readOK, sy5, sy6, Nat.reduceEqDiff, ↓reduceIte, sy7, sy8, sy9, sya, oneOf, syb, syc, Nat.reduceAdd, Nat.reduceMul, syd, sye, syf, syg, syh, reduceCtorEq]
  obtain ⟨row, hca⟩ := id hc1
  refine call0 (pages_spec hca.2.log) ?_
  rintro _ w3 ⟨rfl, hg3⟩
  rw [show ((c.D.first.length - c.size - 1 : Nat) : Int) = (c.N : Int) from rfl]
  clear hca
  have hc3 := hc1.grow hg3
  simp (maxSteps := 1000000) (disch := omega) only [↓sy1, sy2, sy3, readOK, sy5, sy6, Nat.reduceEqDiff, ↓reduceIte, sy7, sy8, sy9, sya, oneOf, syb, syc, Nat.reduceAdd, Nat.reduceMul, syd, sye, syf, syg, syh, reduceCtorEq, e6]
  refine call0 (may_spec (a := c.N) (b := (inoOf (c.page 0) : Nat))) ?_
  rintro _ w3 ⟨rfl, rfl⟩
  by_cases hk : mayA c.N (inoOf (c.page 0) : Nat)
  · have hk' := hk
    unfold mayA at hk'
    simp (maxSteps := 1000000) (disch := omega) only [↓sy1, sy2, sy3, readOK, sy5, sy6, Nat.reduceEqDiff, ↓reduceIte, sy7, sy8, sy9, sya, oneOf, syb, syc, Nat.reduceAdd, Nat.reduceMul, syd, sye, syf, syg, syh, reduceCtorEq, decide_eq_true hk, e4, e6, e0]
    refine call0 (super_spec (a := c.N) (b := inoOf (c.page 0)) (by omega) (by omega)) ?_
    rintro sv w4 ⟨hsv, hg4⟩
    simp (maxSteps := 1000000) (disch := omega) only [↓sy1, sy2, sy3, readOK, sy5, sy6, Nat.reduceEqDiff, ↓reduceIte, sy7, sy8, sy9, sya, oneOf, syb, syc, Nat.reduceAdd, Nat.reduceMul, syd, sye, syf, syg, syh, reduceCtorEq]
    refine call0 (bytesEqual_spec (a := c.page 0) (b := superB c.N (inoOf (c.page 0))) (Has.own (own_grow (own_grow hu hg3) hg4)) (Has.own hsv)) ?_
    rintro _ w5 ⟨rfl, rfl⟩
    have hc5 := hc3.grow hg4
    have hx5 : Ext (fun x => x = μ) G w G1 w5 := (hx1.trans (.grow hg3)).trans (.grow hg4)
    by_cases heq : c.page 0 = superB c.N (inoOf (c.page 0))
    · simp (maxSteps := 1000000) (disch := omega) only [↓sy1, sy2, sy3, readOK, sy5, sy6, Nat.reduceEqDiff, ↓reduceIte, sy7, sy8, sy9, sya, oneOf, syb, syc, Nat.reduceAdd, Nat.reduceMul, syd, sye, syf, syg, syh, reduceCtorEq, decide_eq_true heq, e0, e6, fill_gen, fillF_2 (u := .pointer (some ⟨p, 0, none⟩)) (v := .int .i64 ((inoOf (c.page 0) : Nat) : Int)) rfl rfl, agg2_cells (x := .pointer (some ⟨p, 0, none⟩)) (y := .int .i64 ((inoOf (c.page 0) : Nat) : Int)) rfl rfl]
      have hg6 : Grow w5 (w5.alloc (.cells #[.pointer (some ⟨p, 0, none⟩), .int .i64 ((inoOf (c.page 0) : Nat) : Int)] 61)) := (Keep.refl _ _).alloc _
      have hb6 := heap_alloc_new w5 (.cells #[.pointer (some ⟨p, 0, none⟩), .int .i64 ((inoOf (c.page 0) : Nat) : Int)] 61)
      generalize w5.alloc (.cells #[.pointer (some ⟨p, 0, none⟩), .int .i64 ((inoOf (c.page 0) : Nat) : Int)] 61) = w6 at hg6 hb6 ⊢
      have hx6 : Ext0 G1 w5 (G1.upto w5.heap.size (fun _ => 0) (fun _ => maxLen)) w6 := .upto hg6 _ _
      refine R_out ⟨_, hx5.trans (hx6.mono (fun _ h => h.elim)), Or.inl ⟨hk, heq, w5.heap.size, rfl, hx5.size, hc5.ext hx6 id id id, hb6, (upto_own (Nat.le_refl _)).1, hn6, by omega, by omega⟩⟩
    · simp (maxSteps := 1000000) (disch := omega) only [↓sy1, sy2, sy3, readOK, sy5, sy6, Nat.reduceEqDiff, ↓reduceIte, sy7, sy8, sy9, sya, oneOf, syb, syc, Nat.reduceAdd, Nat.reduceMul, syd, sye, syf, syg, syh, reduceCtorEq, decide_eq_false heq]
      exact R_out ⟨G1, hx5, Or.inr ⟨fun hh => heq hh.2, rfl, hc5⟩⟩
  · simp (maxSteps := 1000000) (disch := omega) only [↓sy1, sy2, sy3, readOK, sy5, sy6, Nat.reduceEqDiff, ↓reduceIte, sy7, sy8, sy9, sya, oneOf, syb, syc, Nat.reduceAdd, Nat.reduceMul, syd, sye, syf, syg, syh, reduceCtorEq, decide_eq_false hk]
    exact R_out ⟨G1, hx1.trans (.grow hg3), Or.inr ⟨fun hh => hk hh.1, rfl, hc3⟩⟩
end
/-- A new cache of so many pages. -/
def ac (pages size : Nat) : Csh := Csh.new (Dsk.zero (pages + size + 1)) size 8
theorem ac_N (pages size : Nat) : (ac pages size).N = pages := by show (Dsk.zero (pages + size + 1)).first.length - size - 1 = pages; rw [zero_len]; omega
theorem ac_dirty (pages size : Nat) : (ac pages size).dirty = [] := Csh.new_dirty _ _ _
theorem ac_cap (pages size : Nat) : (ac pages size).cap = min size 100 := rfl
theorem ac_ops (pages size : Nat) : (ac pages size).D.ops.length = 0 := rfl
theorem cached_spec (G : Gh) {w : World} {pages size : Nat} (κ μ : Nat) (hκ : κ ≠ 0) (hμ : μ ≠ 0) (hne : κ ≠ μ) (h1 : 1 ≤ size) (h2 : 1 ≤ pages) (h3 : pages + size + 1 ≤ 4096) :
    Calls Tryz.prog 7 #[.int .i64 pages, .int .i64 size] w (Ret fun v w' => ∃ p lq G', v = .pointer (some ⟨p, 0, none⟩) ∧ w.heap.size ≤ p ∧ CacheS G' κ μ w' p lq 0 (ac pages size) ∧ Ext0 G w G' w') := by
  apply enter7
  apply R_in
  simp (maxSteps := 1000000) (disch := omega) only [↓sy1, sy2, sy3, readOK, sy5, sy6, Nat.reduceEqDiff, ↓reduceIte, sy7, sy8, sy9, sya, oneOf, syb, syc, Nat.reduceAdd, Nat.reduceMul, syd, sye, syf, syg, syh, reduceCtorEq, F7]
  rw [show (pages : Int) + (size : Int) + 1 = ((pages + size + 1 : Nat) : Int) from by omega]
  refine call0 (new_spec G 1 (n := pages + size + 1) (by omega) (by omega)) ?_
  rintro _ w1 ⟨p, G1, rfl, hp1, hd1, hx1⟩
  simp (maxSteps := 1000000) (disch := omega) only [↓sy1, sy2, sy3, readOK, sy5, sy6, Nat.reduceEqDiff, ↓reduceIte, sy7, sy8, sy9, sya, oneOf, syb, syc, Nat.reduceAdd, Nat.reduceMul, syd, sye, syf, syg, syh, reduceCtorEq]
  refine call0 (open_spec κ hκ hd1 h1 (by rw [zero_len]; omega) (.inl (zero_image (by omega)))) ?_
  rintro _ w3 ⟨q, G3, rfl, hq3, hl3, hx3⟩
  simp (maxSteps := 1000000) (disch := omega) only [↓sy1, sy2, sy3, readOK, sy5, sy6, Nat.reduceEqDiff, ↓reduceIte, sy7, sy8, sy9, sya, oneOf, syb, syc, Nat.reduceAdd, Nat.reduceMul, syd, sye, syf, syg, syh, reduceCtorEq]
  refine call0 (cnew_spec (most := 8) μ hμ hne hl3 (zero_flat _) (zero_calm (by omega)) (by omega) (by omega)) ?_
  rintro _ w5 ⟨p5, G5, rfl, hp5, hc5, hx5⟩
  simp (maxSteps := 1000000) (disch := omega) only [↓sy1, sy2, sy3, readOK, sy5, sy6, Nat.reduceEqDiff, ↓reduceIte, sy7, sy8, sy9, sya, oneOf, syb, syc, Nat.reduceAdd, Nat.reduceMul, syd, sye, syf, syg, syh, reduceCtorEq]
  have hs := (hx1.trans hx3).size
  exact R_out ⟨p5, q, G5, rfl, by omega, hc5.s, (hx1.trans hx3).trans hx5⟩
end Go.Proofs.YtbnecclognibaaaGreat

/- What must be whatever is asked (maps); a nil map. -/
namespace Go.Proofs.YtbnecclognibaaaGreat
open Go
set_option linter.unusedSimpArgs false
open Go.RowKit (intOf)
theorem firstN_upto {n N : Nat} (h : n < N) : firstN (upto1 n N) = n :=
  firstN_eq (fun j hj => by rw [upto1_get (by omega), decide_eq_true hj]) (by rw [upto1_get h, decide_eq_false (by omega)])
theorem upto1_set {n N : Nat} (h : n < N) : (upto1 n N).set n true = upto1 (n + 1) N := by
  refine List.ext_getElem? fun i => ?_
  rw [List.getElem?_set]
  split
  · rename_i he; subst he
    rw [upto1_length, if_pos h, upto1_get h, decide_eq_true (by omega)]
  · by_cases hi : i < N
    · rw [upto1_get hi, upto1_get hi]
      refine congrArg some (decide_eq_decide.2 ?_)
      omega
    · rw [List.getElem?_eq_none (by rw [upto1_length]; omega), List.getElem?_eq_none (by rw [upto1_length]; omega)]
theorem freeN_upto : ∀ {n N : Nat}, n ≤ N → freeN (upto1 n N) = N - n := fun {n N} h => by
  have hs : upto1 n N = List.replicate n true ++ List.replicate (N - n) false := by
    refine List.ext_getElem? fun i => ?_
    by_cases hi : i < N
    · rw [upto1_get hi]
      by_cases hin : i < n
      · rw [List.getElem?_append_left (by simpa using hin), List.getElem?_replicate, if_pos hin, decide_eq_true hin]
      · rw [List.getElem?_append_right (by simp; omega), List.getElem?_replicate, if_pos (by simp; omega), decide_eq_false hin]
    · rw [List.getElem?_eq_none (by rw [upto1_length]; omega), List.getElem?_eq_none (by simp; omega)]
  rw [hs, freeN, List.count_append, List.count_replicate, List.count_replicate]; simp
section
variable {c : Csh} {n : Nat}
theorem taken_facts (hn : n < c.N) (h2 : 2 < c.N) : (c.taken n).N = c.N ∧ (c.taken n).D = c.D ∧ (c.taken n).size = c.size ∧ (c.taken n).cap = c.cap ∧ (c.taken n).dirty.length ≤ c.dirty.length + 2 := by
  refine ⟨rfl, rfl, rfl, rfl, ?_⟩
  have h3 := write_dirty (c := c) (b := flipB (c.page 2) n) h2
  have h4 := write_dirty (c := c.turnP n) (n := n) (b := zsec) hn
  have h5 : ((c.turnP n).write n zsec).dirty = (c.taken n).dirty := rfl
  rw [← h5, h4]
  have h6 : (c.turnP n).dirty = (c.write 2 (flipB (c.page 2) n)).dirty := rfl
  rw [h6, h3]
  split <;> split <;> omega
theorem turnI_facts (h2 : 1 < c.N) : (c.turnI n).N = c.N ∧ (c.turnI n).D = c.D ∧ (c.turnI n).size = c.size ∧ (c.turnI n).cap = c.cap ∧ (c.turnI n).dirty.length ≤ c.dirty.length + 1 := by
  refine ⟨rfl, rfl, rfl, rfl, ?_⟩
  have h3 := write_dirty (c := c) (b := flipB (c.page 1) n) h2
  have h6 : (c.turnI n).dirty = (c.write 1 (flipB (c.page 1) n)).dirty := rfl
  rw [h6, h3]
  split <;> omega
theorem turnP_facts (h2 : 2 < c.N) : (c.turnP n).N = c.N ∧ (c.turnP n).D = c.D ∧ (c.turnP n).size = c.size ∧ (c.turnP n).cap = c.cap ∧ (c.turnP n).dirty.length ≤ c.dirty.length + 1 := by
  refine ⟨rfl, rfl, rfl, rfl, ?_⟩
  have h3 := write_dirty (c := c) (b := flipB (c.page 2) n) h2
  have h6 : (c.turnP n).dirty = (c.write 2 (flipB (c.page 2) n)).dirty := rfl
  rw [h6, h3]
  split <;> omega
theorem wrN_facts (ls : List (List UInt8)) (h : n ≤ c.N) : (wrN c ls n).N = c.N ∧ (wrN c ls n).D = c.D ∧ (wrN c ls n).size = c.size ∧ (wrN c ls n).cap = c.cap ∧ (wrN c ls n).dirty.length ≤ c.dirty.length + n := by
  obtain ⟨h1, h2, h3, _⟩ := wrN_N c ls n
  exact ⟨h1, h2, h3, by simp only [Csh.cap, h3], wrN_dirty n h⟩
end
/-- From c to c' nothing but at most d pages more that were written. -/
def Step (c c' : Csh) (d : Nat) : Prop := c'.N = c.N ∧ c'.D = c.D ∧ c'.size = c.size ∧ c'.cap = c.cap ∧ c'.dirty.length ≤ c.dirty.length + d
section
variable {G : Gh} {κ μ m p lq came : Nat} {w : World} {c : Csh} {P I : List Bool}
theorem make_ok (h : CacheS G κ μ w p lq came c) (hn6 : κ ≠ 6 ∧ μ ≠ 6) {k : Nat} (hk : mayA c.N k) (hroom : c.dirty.length + (3 + k / 8) ≤ c.cap) :
    Calls Tryz.prog 8 #[.pointer (some ⟨p, 0, none⟩), .int .i64 k] w (Ret fun v w' => ∃ m G' c', v = .tuple #[.pointer (some ⟨m, 0, none⟩), .int .i64 0] ∧ w.heap.size ≤ m ∧
      MapAt G' κ μ w' m p lq came c' (upto1 (3 + k / 8) c.N) (upto1 1 k) ∧ Step c c' (3 + k / 8) ∧ Ext (fun x => x = μ) G w G' w') := by
  have hk' := hk
  unfold mayA at hk'
  exact Ret.mono (make_spec h hn6 hk hroom) fun _ _ ⟨m, G', h1, h2, h3, h4⟩ => ⟨m, G', _, h1, h2, h3, wrN_facts _ (by omega), h4⟩
theorem page_ok (h : MapAt G κ μ w m p lq came c P I) (hf : firstN P < P.length) (hroom : c.dirty.length + 2 ≤ c.cap) :
    Calls Tryz.prog 16 #[.pointer (some ⟨m, 0, none⟩)] w (Ret fun v w' => ∃ G' c', Ext (fun x => x = μ) G w G' w' ∧ v = .tuple #[.int .i64 (firstN P), .int .i64 0] ∧ MapAt G' κ μ w' m p lq came c' (P.set (firstN P) true) I ∧ Step c c' 2 ∧ c'.page (firstN P) = zsec ∧ c'.q (firstN P) ≠ none) := by
  obtain ⟨f1, f2, f3, f4, f5, f6, f7, f8⟩ := h.facts
  refine Ret.mono (page_spec h) fun _ _ ⟨G', h1, h2⟩ => ?_
  rcases h2 with ⟨_, h3, _⟩ | ⟨h3, _, _, h4⟩
  · rw [fits_room (by simpa using hroom)] at h3
    exact absurd (h3 hf) (by simp)
  · exact ⟨G', _, h1, h3, h4, taken_facts (by omega) (by omega), by rw [Csh.taken, Csh.write_page, if_pos rfl], by simp [Csh.taken, Csh.write, qput]⟩
theorem page_full (h : MapAt G κ μ w m p lq came c P I) (hf : firstN P = P.length) :
    Calls Tryz.prog 16 #[.pointer (some ⟨m, 0, none⟩)] w (Ret fun v w' => ∃ G', Ext (fun x => x = μ) G w G' w' ∧ v = .tuple #[.int .i64 0, .int .i64 7] ∧ MapAt G' κ μ w' m p lq came c P I) := by
  refine Ret.mono (page_spec h) fun _ _ ⟨G', h1, h2⟩ => ?_
  rcases h2 with ⟨h3, _, h4⟩ | ⟨_, h3, _⟩
  · exact ⟨G', h1, h3, h4⟩
  · omega
theorem inode_ok (h : MapAt G κ μ w m p lq came c P I) (hf : firstN I < I.length) (hroom : c.dirty.length + 1 ≤ c.cap) :
    Calls Tryz.prog 17 #[.pointer (some ⟨m, 0, none⟩)] w (Ret fun v w' => ∃ G' c', Ext (fun x => x = μ) G w G' w' ∧ v = .tuple #[.int .i64 (firstN I), .int .i64 0] ∧ MapAt G' κ μ w' m p lq came c' P (I.set (firstN I) true) ∧ Step c c' 1 ∧ (∀ j, j ≠ 1 → c'.q j = c.q j)) := by
  obtain ⟨f1, f2, f3, f4, f5, f6, f7, f8⟩ := h.facts
  refine Ret.mono (inode_spec h) fun _ _ ⟨G', h1, h2⟩ => ?_
  rcases h2 with ⟨_, h3, _⟩ | ⟨h3, _, _, h4⟩
  · rw [fits_room (by simpa using hroom)] at h3
    exact absurd (h3 hf) (by simp)
  · exact ⟨G', _, h1, h3, h4, turnI_facts (by omega), fun j hj => by simp [Csh.turnI, Csh.write, qput, hj]⟩
theorem inode_full (h : MapAt G κ μ w m p lq came c P I) (hf : firstN I = I.length) :
    Calls Tryz.prog 17 #[.pointer (some ⟨m, 0, none⟩)] w (Ret fun v w' => ∃ G', Ext (fun x => x = μ) G w G' w' ∧ v = .tuple #[.int .i64 0, .int .i64 7] ∧ MapAt G' κ μ w' m p lq came c P I) := by
  refine Ret.mono (inode_spec h) fun _ _ ⟨G', h1, h2⟩ => ?_
  rcases h2 with ⟨h3, _, h4⟩ | ⟨_, h3, _⟩
  · exact ⟨G', h1, h3, h4⟩
  · omega
theorem Step.zero (c : Csh) : Step c c 0 := ⟨rfl, rfl, rfl, rfl, Nat.le_refl _⟩
theorem Step.trans {c c' c'' : Csh} {d d' : Nat} (h : Step c c' d) (h' : Step c' c'' d') : Step c c'' (d + d') :=
  ⟨h'.1.trans h.1, h'.2.1.trans h.2.1, h'.2.2.1.trans h.2.2.1, h'.2.2.2.1.trans h.2.2.2.1, by have := h.2.2.2.2; have := h'.2.2.2.2; omega⟩
theorem Step.le {c c' : Csh} {d d' : Nat} (h : Step c c' d) (hd : d ≤ d') : Step c c' d' := ⟨h.1, h.2.1, h.2.2.1, h.2.2.2.1, by have := h.2.2.2.2; omega⟩
theorem giveC_ok {l : List Bool} {n least : Int} (h : giveC l n least = 0) : least ≤ n ∧ n < l.length ∧ l[n.toNat]? = some true := by
  unfold giveC at h
  split at h
  · cases h
  · split at h
    · exact ⟨by omega, by omega, by assumption⟩
    · cases h
/-- A page is given back. -/
theorem givep_ok (h : MapAt G κ μ w m p lq came c P I) {n : Int} (hroom : c.dirty.length + 1 ≤ c.cap) :
    Calls Tryz.prog 18 #[.pointer (some ⟨m, 0, none⟩), .int .i64 n] w (Ret fun v w' => ∃ G' c', Ext (fun x => x = μ) G w G' w' ∧ v = .int .i64 (giveC P n (3 + I.length / 8 : Nat)) ∧ MapAt G' κ μ w' m p lq came c' (giveL P n (3 + I.length / 8 : Nat)) I ∧ Step c c' 1 ∧ (∀ j, 3 ≤ j → c'.page j = c.page j) ∧ (∀ j, j ≠ 2 → c'.q j = c.q j)) := by
  obtain ⟨f1, f2, f3, f4, f5, f6, f7, f8⟩ := h.facts
  apply enter18
  apply R_in
  simp (maxSteps := 1000000) (disch := omega) only [↓sy1, sy2, sy3, readOK, sy5, sy6, Nat.reduceEqDiff, ↓reduceIte, sy7, sy8, sy9, sya, oneOf, syb, syc, Nat.reduceAdd, Nat.reduceMul, syd, sye, syf, syg, syh, reduceCtorEq, F18]
  refine call0 (firstc_spec h.1.cells.2 (by omega)) ?_
  rintro _ w1 ⟨rfl, rfl⟩
  simp (maxSteps := 1000000) (disch := omega) only [↓sy1, sy2, sy3, readOK, sy5, sy6, Nat.reduceEqDiff, ↓reduceIte, sy7, sy8, sy9, sya, oneOf, syb, syc, Nat.reduceAdd, Nat.reduceMul, syd, sye, syf, syg, syh, reduceCtorEq]
  refine call0 (give_spec h.1 (pg := 2) (.inr rfl) (L := P) h.2.p f1 (n := n) (least := 3 + I.length / 8)) ?_
  rintro _ w2 ⟨G2, hx2, rfl, h2⟩
  rw [fits_room (c := c) (l := [((2 : Nat) : Int)]) (by simpa using hroom)] at h2 ⊢
  by_cases hz : giveC P n (3 + I.length / 8 : Nat) = 0
  · obtain ⟨g1, g2, g3⟩ := giveC_ok hz
    rw [if_pos ⟨hz, rfl⟩] at h2
    have hset : giveL P n (3 + I.length / 8 : Nat) = P.set n.toNat (!true) := by unfold giveL; rw [if_pos hz]; rfl
    rw [if_neg (by simp), hset]
    simp (maxSteps := 1000000) (disch := omega) only [↓sy1, sy2, sy3, readOK, sy5, sy6, Nat.reduceEqDiff, ↓reduceIte, sy7, sy8, sy9, sya, oneOf, syb, syc, Nat.reduceAdd, Nat.reduceMul, syd, sye, syf, syg, syh, reduceCtorEq]
    exact R_out ⟨G2, c.turnP n.toNat, hx2, ⟨h2, h.2.flipP f8 (by omega) g3⟩, turnP_facts (by omega), fun j hj => by rw [Csh.turnP, Csh.write_page, if_neg (by omega)], fun j hj => by simp [Csh.turnP, Csh.write, qput, hj]⟩
  · rw [if_neg (fun hh => hz hh.1)] at h2
    have hset : giveL P n (3 + I.length / 8 : Nat) = P := by unfold giveL; rw [if_neg hz]
    rw [if_neg (fun hh => hz hh.1), hset]
    simp (maxSteps := 1000000) (disch := omega) only [↓sy1, sy2, sy3, readOK, sy5, sy6, Nat.reduceEqDiff, ↓reduceIte, sy7, sy8, sy9, sya, oneOf, syb, syc, Nat.reduceAdd, Nat.reduceMul, syd, sye, syf, syg, syh, reduceCtorEq]
    exact R_out ⟨G2, c, hx2, ⟨h2, h.2⟩, (Step.zero c).le (by omega), fun j _ => rfl, fun j _ => rfl⟩
theorem givei_ok (h : MapAt G κ μ w m p lq came c P I) {n : Int} (hroom : c.dirty.length + 1 ≤ c.cap) :
    Calls Tryz.prog 19 #[.pointer (some ⟨m, 0, none⟩), .int .i64 n] w (Ret fun v w' => ∃ G' c', Ext (fun x => x = μ) G w G' w' ∧ v = .int .i64 (giveC I n 1) ∧ MapAt G' κ μ w' m p lq came c' P (giveL I n 1) ∧ Step c c' 1 ∧ (∀ j, j ≠ 1 → c'.q j = c.q j)) := by
  obtain ⟨f1, f2, f3, f4, f5, f6, f7, f8⟩ := h.facts
  apply enter19
  apply R_in
  simp (maxSteps := 1000000) (disch := omega) only [↓sy1, sy2, sy3, readOK, sy5, sy6, Nat.reduceEqDiff, ↓reduceIte, sy7, sy8, sy9, sya, oneOf, syb, syc, Nat.reduceAdd, Nat.reduceMul, syd, sye, syf, syg, syh, reduceCtorEq, F19]
  refine call0 (give_spec h.1 (pg := 1) (.inl rfl) (L := I) h.2.i f1 (n := n) (least := 1)) ?_
  rintro _ w2 ⟨G2, hx2, rfl, h2⟩
  rw [fits_room (c := c) (l := [((1 : Nat) : Int)]) (by simpa using hroom)] at h2 ⊢
  rw [show (((1 : Nat) : Int)) = 1 from rfl] at h2 ⊢
  by_cases hz : giveC I n 1 = 0
  · obtain ⟨g1, g2, g3⟩ := giveC_ok hz
    rw [if_pos ⟨hz, rfl⟩] at h2
    have hset : giveL I n 1 = I.set n.toNat (!true) := by unfold giveL; rw [if_pos hz]; rfl
    rw [if_neg (by simp), hset]
    simp (maxSteps := 1000000) (disch := omega) only [↓sy1, sy2, sy3, readOK, sy5, sy6, Nat.reduceEqDiff, ↓reduceIte, sy7, sy8, sy9, sya, oneOf, syb, syc, Nat.reduceAdd, Nat.reduceMul, syd, sye, syf, syg, syh, reduceCtorEq]
    refine R_out ⟨G2, c.turnI n.toNat, hx2, ⟨?_, h.2.flipI f7 (by omega) g3⟩, turnI_facts (by omega), fun j hj => by simp [Csh.turnI, Csh.write, qput, hj]⟩
    rw [List.length_set]; exact h2
  · rw [if_neg (fun hh => hz hh.1)] at h2
    have hset : giveL I n 1 = I := by unfold giveL; rw [if_neg hz]
    rw [if_neg (fun hh => hz hh.1), hset]
    simp (maxSteps := 1000000) (disch := omega) only [↓sy1, sy2, sy3, readOK, sy5, sy6, Nat.reduceEqDiff, ↓reduceIte, sy7, sy8, sy9, sya, oneOf, syb, syc, Nat.reduceAdd, Nat.reduceMul, syd, sye, syf, syg, syh, reduceCtorEq]
    exact R_out ⟨G2, c, hx2, ⟨h2, h.2⟩, (Step.zero c).le (by omega), fun j _ => rfl⟩
theorem used_ok (h : MapAt G κ μ w m p lq came c P I) {n : Int} :
    Calls Tryz.prog 14 #[.pointer (some ⟨m, 0, none⟩), .int .i64 n] w (Ret fun v w' => v = .bool (usedC P n) ∧ ∃ G', Ext (fun x => x = μ) G w G' w' ∧ MapAt G' κ μ w' m p lq came c P I) := by
  apply enter14
  apply R_in
  simp (maxSteps := 1000000) (disch := omega) only [↓sy1, sy2, sy3, readOK, sy5, sy6, Nat.reduceEqDiff, ↓reduceIte, sy7, sy8, sy9, sya, oneOf, syb, syc, Nat.reduceAdd, Nat.reduceMul, syd, sye, syf, syg, syh, reduceCtorEq, F14]
  refine call0 (is_spec h.1 (pg := 2) (.inr rfl) (L := P) h.2.p (n := n)) ?_
  rintro _ w2 ⟨rfl, G2, hx2, h2⟩
  simp (maxSteps := 1000000) (disch := omega) only [↓sy1, sy2, sy3, readOK, sy5, sy6, Nat.reduceEqDiff, ↓reduceIte, sy7, sy8, sy9, sya, oneOf, syb, syc, Nat.reduceAdd, Nat.reduceMul, syd, sye, syf, syg, syh, reduceCtorEq]
  exact R_out ⟨G2, hx2, h2, h.2⟩
theorem usedi_ok (h : MapAt G κ μ w m p lq came c P I) {n : Int} :
    Calls Tryz.prog 15 #[.pointer (some ⟨m, 0, none⟩), .int .i64 n] w (Ret fun v w' => v = .bool (usedC I n) ∧ ∃ G', Ext (fun x => x = μ) G w G' w' ∧ MapAt G' κ μ w' m p lq came c P I) := by
  apply enter15
  apply R_in
  simp (maxSteps := 1000000) (disch := omega) only [↓sy1, sy2, sy3, readOK, sy5, sy6, Nat.reduceEqDiff, ↓reduceIte, sy7, sy8, sy9, sya, oneOf, syb, syc, Nat.reduceAdd, Nat.reduceMul, syd, sye, syf, syg, syh, reduceCtorEq, F15]
  refine call0 (is_spec h.1 (pg := 1) (.inl rfl) (L := I) h.2.i (n := n)) ?_
  rintro _ w2 ⟨rfl, G2, hx2, h2⟩
  simp (maxSteps := 1000000) (disch := omega) only [↓sy1, sy2, sy3, readOK, sy5, sy6, Nat.reduceEqDiff, ↓reduceIte, sy7, sy8, sy9, sya, oneOf, syb, syc, Nat.reduceAdd, Nat.reduceMul, syd, sye, syf, syg, syh, reduceCtorEq]
  exact R_out ⟨G2, hx2, h2, h.2⟩
/-- The cache of a map commits. -/
theorem mcommit_ok (h : MapAt G κ μ w m p lq came c P I) (ho : c.D.ops.length < 700000) :
    Calls Tryz.prog 11 #[.pointer (some ⟨p, 0, none⟩)] w (Ret fun v w' => v = .int .i64 0 ∧ ∃ G', Ext (fun x => x = κ ∨ x = μ) G w G' w' ∧ MapAt G' κ μ w' m p lq came c.commit P I) := by
  have hne := h.1.cache.ne
  obtain ⟨row, hok⟩ := h.1.cache.oks
  refine Ret.mono (cscommit_spec h.1.cache ho) fun _ _ ⟨h2, G', h3, h4⟩ => ⟨h2, G', h4, h.1.put h4 ?_ h3 (Csh.commit_N c), ?_⟩
  · rintro (hh | hh)
    · exact hne.2.2 hh.symm
    · exact hne.2.1 hh.symm
  · have h5 := h.2
    exact h5.congr (Csh.commit_N c) fun n hn => Csh.commit_page (c := { c with row := row }) hok (by
      have := h.facts.2.2.2.2.1
      show n < c.N
      omega)
theorem commit_facts {c : Csh} (h : c.OkS) : c.commit.N = c.N ∧ c.commit.dirty = [] ∧ c.commit.cap = c.cap ∧ c.commit.size = c.size ∧ c.commit.D.ops.length ≤ c.D.ops.length + 206 :=
  ⟨Csh.commit_N c, Csh.dirty_commit c, rfl, rfl, h.cops.1⟩
end
set_option maxHeartbeats 4000000 in
theorem live5_spec (w : World) : Calls Tryz.prog 10 #[] w (Ret fun v w' => v = .bool true ∧ Grow w w') := by
  apply enter10
  apply R_in
  simp (maxSteps := 1000000) (disch := omega) only [↓sy1, sy2, sy3, readOK, sy5, sy6, Nat.reduceEqDiff, ↓reduceIte, sy7, sy8, sy9, sya, oneOf, syb, syc, Nat.reduceAdd, Nat.reduceMul, syd, sye, syf, syg, syh, reduceCtorEq, F10]
  refine call0 (cached_spec G00 (pages := 40) (size := 50) 2 7 (by omega) (by omega) (by omega) (by omega) (by omega) (by omega)) ?_
  rintro _ w1 ⟨p, lq, G1, rfl, hp1, hc1, hx1⟩
  simp (maxSteps := 1000000) (disch := omega) only [↓sy1, sy2, sy3, readOK, sy5, sy6, Nat.reduceEqDiff, ↓reduceIte, sy7, sy8, sy9, sya, oneOf, syb, syc, Nat.reduceAdd, Nat.reduceMul, syd, sye, syf, syg, syh, reduceCtorEq]
  have hN := ac_N 40 50
  have hd := ac_dirty 40 50
  have hcap : (ac 40 50).cap = 50 := ac_cap 40 50
  generalize ac 40 50 = c0 at hc1 hN hd hcap
  have hmay : mayA c0.N ((8 : Nat) : Int) := by unfold mayA; omega
  refine call0 (make_ok hc1 (by omega) (k := 8) hmay (by rw [hd, hcap]; simp)) ?_
  rintro _ w2 ⟨m, G2, c1, rfl, hm2, h2, hst1, hx2⟩
  rw [hN] at h2
  obtain ⟨n1, n2, n3, n4, n5⟩ := id hst1
  rw [hd] at n5
  simp only [List.length_nil] at n5
  have hf1 : firstN (upto1 (3 + 8 / 8) 40) = 4 := firstN_upto (by omega)
  simp (maxSteps := 1000000) (disch := omega) only [↓sy1, sy2, sy3, readOK, sy5, sy6, Nat.reduceEqDiff, ↓reduceIte, sy7, sy8, sy9, sya, oneOf, syb, syc, Nat.reduceAdd, Nat.reduceMul, syd, sye, syf, syg, syh, reduceCtorEq]
  refine call0 (page_ok h2 (by rw [hf1, upto1_length]; omega) (by omega)) ?_
  rintro _ w3 ⟨G3, c2, hx3, rfl, h3, hst2, _, _⟩
  rw [hf1, show (upto1 (3 + 8 / 8) 40).set 4 true = upto1 5 40 from upto1_set (by omega)] at h3
  rw [hf1]
  obtain ⟨o1, o2, o3, o4, o5⟩ := id hst2
  have hf2 : firstN (upto1 5 40) = 5 := firstN_upto (by omega)
  simp (maxSteps := 1000000) (disch := omega) only [↓sy1, sy2, sy3, readOK, sy5, sy6, Nat.reduceEqDiff, ↓reduceIte, sy7, sy8, sy9, sya, oneOf, syb, syc, Nat.reduceAdd, Nat.reduceMul, syd, sye, syf, syg, syh, reduceCtorEq]
  refine call0 (page_ok h3 (by rw [hf2, upto1_length]; omega) (by omega)) ?_
  rintro _ w4 ⟨G4, c3, hx4, rfl, h4, hst3, _, _⟩
  rw [hf2, show (upto1 5 40).set 5 true = upto1 6 40 from upto1_set (by omega)] at h4
  rw [hf2]
  simp (maxSteps := 1000000) (disch := omega) only [↓sy1, sy2, sy3, readOK, sy5, sy6, Nat.reduceEqDiff, ↓reduceIte, sy7, sy8, sy9, sya, oneOf, syb, syc, Nat.reduceAdd, Nat.reduceMul, syd, sye, syf, syg, syh, reduceCtorEq]
  refine call0 (free_spec h4 (by rw [upto1_length]; omega)) ?_
  rintro _ w5 ⟨rfl, G5, hx5, h5⟩
  rw [freeN_upto (by omega), freeN_upto (by omega)]
  simp (maxSteps := 1000000) (disch := omega) only [↓sy1, sy2, sy3, readOK, sy5, sy6, Nat.reduceEqDiff, ↓reduceIte, sy7, sy8, sy9, sya, oneOf, syb, syc, Nat.reduceAdd, Nat.reduceMul, syd, sye, syf, syg, syh, reduceCtorEq, decide_true]
  refine call0 (firstc_spec h5.1.cells.2 (by rw [upto1_length]; omega)) ?_
  rintro _ w6 ⟨rfl, rfl⟩
  rw [upto1_length, show ((3 + 8 / 8 : Nat) : Int) = 4 from rfl]
  simp (maxSteps := 1000000) (disch := omega) only [↓sy1, sy2, sy3, readOK, sy5, sy6, Nat.reduceEqDiff, ↓reduceIte, sy7, sy8, sy9, sya, oneOf, syb, syc, Nat.reduceAdd, Nat.reduceMul, syd, sye, syf, syg, syh, reduceCtorEq, show (((4 : Nat) : Int)) = 4 from rfl, show (((5 : Nat) : Int)) = 5 from rfl, show (((40 - 6 : Nat) : Int)) = 34 from rfl, show (((8 - 1 : Nat) : Int)) = 7 from rfl, decide_true]
  have hx : Ext (fun x => x = 7) G00 w G5 w6 := ((((hx1.mono (fun _ h => h.elim)).trans hx2).trans hx3).trans hx4).trans hx5
  exact R_out (hx.toGrow (by omega))
end Go.Proofs.YtbnecclognibaaaGreat

/- AllocBack: the walk. -/
namespace Go.Proofs.YtbnecclognibaaaGreat
open Go
set_option linter.unusedSimpArgs false
open Go.RowKit (intOf)
theorem elemBo : ElemIs Tryz.prog 69 4 1 1 (.bool false) := elem_of (by kernel_rfl)
def bls (l : List Bool) : List Value := l.map .bool
theorem bls_length (l : List Bool) : (bls l).length = l.length := by simp [bls]
theorem bls_set (l : List Bool) (i : Nat) (b : Bool) : (bls l).set i (.bool b) = bls (l.set i b) := by simp [bls, List.map_set]
theorem Has.getL {w : World} {v : Value} {l : List Bool} (h : Has 1 w v (bls l)) {i : Nat} (hi : i < l.length) : ∃ a, iaF 1 v (.int .i64 i) = some (.pointer (some a)) ∧ w.cell? a = some (.bool l[i]) ∧ v.ownBlock = some a.block := by
  obtain ⟨a, h1, h2, h3⟩ := h.idx (i := i) (by rw [bls_length]; exact hi)
  refine ⟨a, h1, ?_, h3⟩
  rw [h2]; simp [bls]
theorem freeN_set : ∀ {l : List Bool} {i : Nat}, l[i]? = some true → freeN (l.set i false) = freeN l + 1
  | true :: l, 0, _ => by simp [freeN]
  | a :: l, i + 1, h => by
    have h1 := freeN_set (l := l) (i := i) (by simpa using h)
    unfold freeN at h1 ⊢
    rw [List.set_cons_succ, List.count_cons, List.count_cons, h1]; omega
theorem dirty_two {c : Csh} (h : ∀ n, c.q n ≠ none → n = 1 ∨ n = 2) : c.dirty.length ≤ 2 := by
  have hr : c.dirty.Pairwise (· < ·) := keysQ_rise _ _
  have hm : ∀ n ∈ c.dirty, n = 1 ∨ n = 2 := fun n hn => by
    obtain ⟨_, b, hb⟩ := mem_keysQ.1 hn
    exact h n (by rw [hb]; simp)
  generalize c.dirty = l at hr hm
  match l, hr, hm with
  | [], _, _ => simp
  | [a], _, _ => simp
  | [a, b], _, _ => simp
  | a :: b :: d :: l, hr, hm =>
    simp only [List.pairwise_cons, List.mem_cons, forall_eq_or_imp] at hr hm
    omega
/-- The caller's own row. -/
def Own6 (G : Gh) (v : Value) : Prop := ∀ b, v.ownBlock = some b → G.own b = 6 ∧ G.fix b = 0
theorem Own6.ext {K : Nat → Prop} {G G' : Gh} {w w' : World} {v : Value} {B n k : Nat} {t : TypeId} {xs : List Value} (h : Own6 G v) (hx : Ext K G w G' w') (ho : w.ownsRow B t k v n xs) (hk : ¬ K 6) : Own6 G' v := fun b hb => by
  have hlt := (World.ownsRow.lt ho b hb).2
  rw [hx.own b hlt, hx.fixe b hlt (by rw [(h b hb).1]; exact hk)]
  exact h b hb
theorem own6_keep {K : Nat → Prop} {G G' : Gh} {w w' : World} {v : Value} {B n : Nat} {t : TypeId} {xs : List Value} (h : Own6 G v) (hx : Ext K G w G' w') (ho : w.ownsRow B t 1 v n xs) (hk : ¬ K 6) : w'.ownsRow B t 1 v n xs :=
  own_keep ho hx.keep (fun b hb hh => hk (by rw [(h b hb).1] at hh; exact hh))
/-- A number is appended to the caller's own row. -/
theorem app6_rule {k : Kont} {e : Env} {G : Gh} {w : World} {l : List GOp} {d : Option Nat} {x y : Operand} {v : Value} {B n : Nat} {zs' : List Int} {z : Int} {ty : TypeId} (hx : ev e x = v) (hy : ev e y = .slice (some ⟨w.heap.size, 0, none⟩) 1 1) (ho : w.ownsRow B 3 1 v n (ints zs')) (h6 : Own6 G v) (hn : n < 100000) (hB : B ≤ w.heap.size)
    (hh : ∀ v' w' G', w'.ownsRow B 3 1 v' (n + 1) (ints (zs' ++ [z])) → Own6 G' v' → Ext (fun c => c = 6) G w G' w' → Keep (fun b => v.ownBlock = some b) w w' → (∀ b, b < w.heap.size → G'.own b = G.own b ∧ G'.fix b = G.fix b) → (∀ b, v'.ownBlock = some b → v.ownBlock = some b ∨ w.heap.size ≤ b) → R (symOps Tryz.prog l k (updO e d v') w')) :
    R (symOps Tryz.prog (⟨d, .hard (H (.call { callee := .builtin .append, args := #[x, y], argTypes := #[66, 66] }) ty), none⟩ :: l) k e (w.alloc (.cells #[.int .i64 z] 3))) := by
  have hga : Grow w (w.alloc (.cells #[.int .i64 z] 3)) := (Keep.refl _ _).alloc _
  refine app_own2 elemI hx hy (own_grow ho hga) Has.new1 (m := 1) rfl (by simp [isCell]) (by omega) (by omega) (by have := hga.size; omega) ?_
  intro v' w' ho' hg' hb'
  have hka := Keep.grown hg'
  have hxa : Ext0 G w (G.upto w.heap.size (fun _ => 6) (fun _ => 0)) (w.alloc (.cells #[.int .i64 z] 3)) := .upto hga _ _
  have h6a := Own6.ext h6 hxa ho id
  refine hh v' w' (G.upto w.heap.size (fun _ => 6) (fun _ => 0)) ?_ ?_ ?_ ((Keep.grow hga).trans (hka.mono (fun b _ hb => hb.symm))) (fun b hb => by simp [Gh.upto, hb]) (fun b hb => by
    rcases hb' with h1 | h1
    · rw [← h1]; exact .inl hb
    · rw [h1] at hb
      have := Option.some.inj hb
      have := hga.size
      exact .inr (by omega))
  · have : ints zs' ++ [.int .i64 z] = ints (zs' ++ [z]) := by simp [ints]
    rw [this] at ho'; exact ho'
  · intro b hb
    by_cases hlt : b < w.heap.size
    · have hrow : v.ownBlock = some b := by
        rcases hb' with h1 | h1
        · rw [← h1]; exact hb
        · rw [h1] at hb
          have := Option.some.inj hb
          have := hga.size; omega
      exact h6a b hrow
    · exact upto_own (by omega)
  · refine (hxa.mono (fun _ h => h.elim)).trans (.onS0 hka (fun b hb => h6a b hb.symm))
/-- The numbers a, a + 1 .. -/
def fromN (a n : Nat) : List Int := (List.range n).map fun i => ((a + i : Nat) : Int)
theorem fromN_length (a n : Nat) : (fromN a n).length = n := by simp [fromN]
theorem fromN_snoc (a n : Nat) : fromN a n ++ [((a + n : Nat) : Int)] = fromN a (n + 1) := by simp [fromN, List.range_succ]
theorem fromN_get {a n i : Nat} (h : i < (fromN a n).length) : (fromN a n)[i] = ((a + i : Nat) : Int) := by simp [fromN]
end Go.Proofs.YtbnecclognibaaaGreat

/- The reference's map: rows of bools. -/
namespace Go.Proofs.YtbnecclognibaaaGreat
open Go
set_option linter.unusedSimpArgs false
open Go.RowKit (intOf)
def takeL (l : List Bool) : List Bool := if firstN l < l.length then l.set (firstN l) true else l
def takeN (l : List Bool) : Nat := if firstN l < l.length then firstN l else 0
def takeC (l : List Bool) : Int := if firstN l < l.length then 0 else 7
theorem takeL_length (l : List Bool) : (takeL l).length = l.length := by unfold takeL; split <;> simp
theorem giveL_length (l : List Bool) (n k : Int) : (giveL l n k).length = l.length := by unfold giveL; split <;> simp
/-- What take, give answer. -/
def TakeR (w w' : World) (v : Value) (l : List Bool) (r : Value) : Prop :=
  ∃ u, r = .tuple #[u, .int .i64 (takeN l), .int .i64 (takeC l)] ∧ ((w'.ownsRow w.heap.size 4 1 u l.length (bls (takeL l))) ∨ (u = v ∧ takeL l = l))
def GiveR (w w' : World) (v : Value) (l : List Bool) (n k : Int) (r : Value) : Prop :=
  ∃ u, r = .tuple #[u, .int .i64 (giveC l n k)] ∧ ((w'.ownsRow w.heap.size 4 1 u l.length (bls (giveL l n k))) ∨ (u = v ∧ giveL l n k = l))
theorem bls_cell (l : List Bool) : ∀ u ∈ bls l, isCell u = true := fun u hu => by
  obtain ⟨n, _, rfl⟩ := List.mem_map.1 hu; rfl
theorem rtake_spec {w : World} {v : Value} {l : List Bool} (h : Has 1 w v (bls l)) (hl : l.length ≤ 4096) :
    Calls Tryz.prog 76 #[v] w (Ret fun r w' => TakeR w w' v l r ∧ Grow w w') := by
  apply enter76
  apply R_in
  have hlen : ∀ w', lenF w' 0 v = some (.int .i64 l.length) := fun w' => by rw [h.len, bls_length]
  simp (maxSteps := 1000000) (disch := omega) only [↓sy1, sy2, sy3, readOK, sy5, sy6, Nat.reduceEqDiff, ↓reduceIte, sy7, sy8, sy9, sya, oneOf, syb, syc, Nat.reduceAdd, Nat.reduceMul, syd, sye, syf, syg, syh, reduceCtorEq, F76]
  refine loop_rule (fun e w' => ∃ i : Nat, i ≤ l.length ∧ e 5 = .int .i64 i ∧ e 0 = v ∧ (∀ j < i, l[j]? = some true) ∧ w = w') (fun e _ => l.length - (intOf (e 5)).toNat)
    ⟨0, by omega, by simp [upd, updO, ev], by simp [upd, updO, ev], by omega, rfl⟩ ?_
  rintro e _ ⟨i, hi, e5, e0, hall, rfl⟩
  by_cases hlt : i < l.length
  · obtain ⟨a, ha, hc, _⟩ := h.getL hlt
    cases hb : l[i] with
    | true =>
      rw [hb] at hc
      simp (maxSteps := 1000000) (disch := omega) only [↓sy1, sy2, sy3, readOK, sy5, sy6, Nat.reduceEqDiff, ↓reduceIte, sy7, sy8, sy9, sya, oneOf, syb, syc, Nat.reduceAdd, Nat.reduceMul, syd, sye, syf, syg, syh, reduceCtorEq, F76_L0, e5, e0, hlen, Int.ofNat_lt, hlt, decide_true, ha, hc]
      refine R_out ⟨⟨i + 1, by omega, rfl, fun j hj => ?_⟩, by simp only [intOf]; omega⟩
      by_cases hji : j < i
      · exact hall j hji
      · rw [show j = i by omega, List.getElem?_eq_getElem hlt, hb]
    | false =>
      rw [hb] at hc
      have hf : firstN l = i := firstN_eq hall (by rw [List.getElem?_eq_getElem hlt, hb])
      simp (maxSteps := 1000000) (disch := omega) only [↓sy1, sy2, sy3, readOK, sy5, sy6, Nat.reduceEqDiff, ↓reduceIte, sy7, sy8, sy9, sya, oneOf, syb, syc, Nat.reduceAdd, Nat.reduceMul, syd, sye, syf, syg, syh, reduceCtorEq, F76_L0, e5, e0, hlen, Int.ofNat_lt, hlt, decide_true, ha, hc]
      refine app_own elemBo (by simp only [upd_at, Nat.reduceEqDiff, reduceIte, ev_tmp, ev_const, List.map_cons, List.map_nil]) (by simp only [upd_at, Nat.reduceEqDiff, reduceIte, ev_tmp, ev_const, List.map_cons, List.map_nil, e0]) (World.ownsRow_nil w w.heap.size _ _) h (m := l.length) (by rw [bls_length]; omega) (bls_cell l) (by omega) (by omega) (Nat.le_refl _) ?_
      intro u w1 ho hg
      rw [Nat.zero_add, List.nil_append] at ho
      obtain ⟨a2, w2, ha2, hst, ho2, hk2, _⟩ := own_store ho hlt (u := .bool true) rfl
      rw [bls_set] at ho2
      simp (maxSteps := 1000000) (disch := omega) only [↓sy1, sy2, sy3, readOK, sy5, sy6, Nat.reduceEqDiff, ↓reduceIte, sy7, sy8, sy9, sya, oneOf, syb, syc, Nat.reduceAdd, Nat.reduceMul, syd, sye, syf, syg, syh, reduceCtorEq, e5, e0, ha2, hst]
      have hg1 : Grow w w1 := (Keep.grown hg).mono (fun b _ hb => by simp [Value.ownBlock] at hb)
      refine R_out ⟨⟨u, ?_, .inl ?_⟩, hg1.then hk2 (fun b hb hh => by have := (World.ownsRow.lt ho b hh).1; omega)⟩
      · rw [takeN, takeC, hf, if_pos hlt, if_pos hlt]
      · rw [takeL, hf, if_pos hlt]; exact ho2
  · have hie : i = l.length := by omega
    subst hie
    have hf : firstN l = l.length := firstN_none hall
    simp (maxSteps := 1000000) (disch := omega) only [↓sy1, sy2, sy3, readOK, sy5, sy6, Nat.reduceEqDiff, ↓reduceIte, sy7, sy8, sy9, sya, oneOf, syb, syc, Nat.reduceAdd, Nat.reduceMul, syd, sye, syf, syg, syh, reduceCtorEq, F76_L0, e5, e0, hlen, Int.ofNat_lt, hlt, decide_false]
    refine R_out ⟨⟨v, ?_, .inr ⟨rfl, ?_⟩⟩, Keep.refl _ _⟩
    · rw [takeN, takeC, if_neg (by omega), if_neg (by omega)]; rfl
    · rw [takeL, if_neg (by omega)]
theorem rgive_spec {w : World} {v : Value} {l : List Bool} {n k : Int} (h : Has 1 w v (bls l)) (hl : l.length ≤ 4096) (hk : 0 ≤ k) :
    Calls Tryz.prog 77 #[v, .int .i64 n, .int .i64 k] w (Ret fun r w' => GiveR w w' v l n k r ∧ Grow w w') := by
  apply enter77
  apply R_in
  have hlen : ∀ w', lenF w' 0 v = some (.int .i64 l.length) := fun w' => by rw [h.len, bls_length]
  by_cases hout : n < k ∨ (l.length : Int) ≤ n
  · have hcode : giveC l n k = 2 := if_pos hout
    have hsame : giveL l n k = l := by rw [giveL, if_neg (by rw [hcode]; omega)]
    by_cases h1 : n < k
    · simp (maxSteps := 1000000) (disch := omega) only [↓sy1, sy2, sy3, readOK, sy5, sy6, Nat.reduceEqDiff, ↓reduceIte, sy7, sy8, sy9, sya, oneOf, syb, syc, Nat.reduceAdd, Nat.reduceMul, syd, sye, syf, syg, syh, reduceCtorEq, F77, h1, decide_true]
      exact R_out ⟨⟨v, by rw [hcode], .inr ⟨rfl, hsame⟩⟩, Keep.refl _ _⟩
    · simp (maxSteps := 1000000) (disch := omega) only [↓sy1, sy2, sy3, readOK, sy5, sy6, Nat.reduceEqDiff, ↓reduceIte, sy7, sy8, sy9, sya, oneOf, syb, syc, Nat.reduceAdd, Nat.reduceMul, syd, sye, syf, syg, syh, reduceCtorEq, F77, h1, decide_false, hlen, show (l.length : Int) ≤ n from by omega, decide_true]
      exact R_out ⟨⟨v, by rw [hcode], .inr ⟨rfl, hsame⟩⟩, Keep.refl _ _⟩
  obtain ⟨i, rfl⟩ : ∃ i : Nat, n = i := ⟨n.toNat, by omega⟩
  have hlt : i < l.length := by omega
  obtain ⟨a, ha, hc, _⟩ := h.getL hlt
  have hcode : giveC l i k = if l[i] = true then 0 else 4 := by
    unfold giveC
    rw [if_neg hout, show ((i : Int)).toNat = i from rfl, List.getElem?_eq_getElem hlt]
    simp
  cases hb : l[i] with
  | false =>
    rw [hb] at hc hcode
    have hcode : giveC l i k = 4 := hcode
    have hsame : giveL l i k = l := by rw [giveL, if_neg (by rw [hcode]; omega)]
    simp (maxSteps := 1000000) (disch := omega) only [↓sy1, sy2, sy3, readOK, sy5, sy6, Nat.reduceEqDiff, ↓reduceIte, sy7, sy8, sy9, sya, oneOf, syb, syc, Nat.reduceAdd, Nat.reduceMul, syd, sye, syf, syg, syh, reduceCtorEq, F77, show ¬ ((i : Int) < k) from by omega, decide_false, hlen, show ¬ ((l.length : Int) ≤ (i : Int)) from by omega, ha, hc]
    exact R_out ⟨⟨v, by rw [hcode], .inr ⟨rfl, hsame⟩⟩, Keep.refl _ _⟩
  | true =>
    rw [hb] at hc hcode
    have hcode : giveC l i k = 0 := hcode
    simp (maxSteps := 1000000) (disch := omega) only [↓sy1, sy2, sy3, readOK, sy5, sy6, Nat.reduceEqDiff, ↓reduceIte, sy7, sy8, sy9, sya, oneOf, syb, syc, Nat.reduceAdd, Nat.reduceMul, syd, sye, syf, syg, syh, reduceCtorEq, F77, show ¬ ((i : Int) < k) from by omega, decide_false, hlen, show ¬ ((l.length : Int) ≤ (i : Int)) from by omega, ha, hc]
    refine app_own elemBo (by simp only [upd_at, Nat.reduceEqDiff, reduceIte, ev_tmp, ev_const, List.map_cons, List.map_nil]) (by simp only [upd_at, Nat.reduceEqDiff, reduceIte, ev_tmp, ev_const, List.map_cons, List.map_nil]) (World.ownsRow_nil w w.heap.size _ _) h (m := l.length) (by rw [bls_length]; omega) (bls_cell l) (by omega) (by omega) (Nat.le_refl _) ?_
    intro u w1 ho hg
    rw [Nat.zero_add, List.nil_append] at ho
    obtain ⟨a2, w2, ha2, hst, ho2, hk2, _⟩ := own_store ho hlt (u := .bool false) rfl
    rw [bls_set] at ho2
    simp (maxSteps := 1000000) (disch := omega) only [↓sy1, sy2, sy3, readOK, sy5, sy6, Nat.reduceEqDiff, ↓reduceIte, sy7, sy8, sy9, sya, oneOf, syb, syc, Nat.reduceAdd, Nat.reduceMul, syd, sye, syf, syg, syh, reduceCtorEq, ha2, hst]
    have hg1 : Grow w w1 := (Keep.grown hg).mono (fun b _ hb => by simp [Value.ownBlock] at hb)
    refine R_out ⟨⟨u, by rw [hcode], .inl ?_⟩, hg1.then hk2 (fun b hb hh => by have := (World.ownsRow.lt ho b hh).1; omega)⟩
    rw [giveL, if_pos hcode]; exact ho2
theorem rcount_spec {w : World} {v : Value} {l : List Bool} (h : Has 1 w v (bls l)) (hl : l.length ≤ 4096) :
    Calls Tryz.prog 79 #[v] w (Ret fun r w' => r = .int .i64 (freeN l) ∧ w' = w) := by
  apply enter79
  apply R_in
  have hlen : ∀ w', lenF w' 0 v = some (.int .i64 l.length) := fun w' => by rw [h.len, bls_length]
  simp (maxSteps := 1000000) (disch := omega) only [↓sy1, sy2, sy3, readOK, sy5, sy6, Nat.reduceEqDiff, ↓reduceIte, sy7, sy8, sy9, sya, oneOf, syb, syc, Nat.reduceAdd, Nat.reduceMul, syd, sye, syf, syg, syh, reduceCtorEq, F79]
  refine loop_rule (fun e w' => ∃ i : Nat, i ≤ l.length ∧ e 4 = .int .i64 i ∧ e 0 = v ∧ e 3 = .int .i64 (freeN (l.take i)) ∧ w = w') (fun e _ => l.length - (intOf (e 4)).toNat)
    ⟨0, by omega, by simp [upd, updO, ev], by simp [upd, updO, ev], by simp [upd, updO, ev, freeN], rfl⟩ ?_
  rintro e _ ⟨i, hi, e4, e0, e3, rfl⟩
  by_cases hlt : i < l.length
  · obtain ⟨a, ha, hc, _⟩ := h.getL hlt
    have hstep := freeN_take (List.getElem?_eq_getElem hlt)
    have hle := freeN_take_le l i
    cases hb : l[i] with
    | true =>
      rw [hb] at hc hstep
      simp (maxSteps := 1000000) (disch := omega) only [↓sy1, sy2, sy3, readOK, sy5, sy6, Nat.reduceEqDiff, ↓reduceIte, sy7, sy8, sy9, sya, oneOf, syb, syc, Nat.reduceAdd, Nat.reduceMul, syd, sye, syf, syg, syh, reduceCtorEq, F79_L0, e4, e0, e3, hlen, Int.ofNat_lt, hlt, decide_true, ha, hc]
      exact R_out ⟨⟨i + 1, by omega, rfl, by rw [hstep]; rfl⟩, by simp only [intOf]; omega⟩
    | false =>
      rw [hb] at hc hstep
      simp (maxSteps := 1000000) (disch := omega) only [↓sy1, sy2, sy3, readOK, sy5, sy6, Nat.reduceEqDiff, ↓reduceIte, sy7, sy8, sy9, sya, oneOf, syb, syc, Nat.reduceAdd, Nat.reduceMul, syd, sye, syf, syg, syh, reduceCtorEq, F79_L0, e4, e0, e3, hlen, Int.ofNat_lt, hlt, decide_true, ha, hc]
      exact R_out ⟨⟨i + 1, by omega, rfl, by rw [hstep]; rfl⟩, by simp only [intOf]; omega⟩
  · have hie : i = l.length := by omega
    subst hie
    rw [List.take_length] at e3
    simp (maxSteps := 1000000) (disch := omega) only [↓sy1, sy2, sy3, readOK, sy5, sy6, Nat.reduceEqDiff, ↓reduceIte, sy7, sy8, sy9, sya, oneOf, syb, syc, Nat.reduceAdd, Nat.reduceMul, syd, sye, syf, syg, syh, reduceCtorEq, F79_L0, e4, e0, e3, hlen, Int.ofNat_lt, hlt, decide_false]
    exact R_out trivial
/-- The reference's map in memory. -/
structure RM (G : Gh) (μ : Nat) (w : World) (r : Nat) (P I : List Bool) : Prop where
  ne0 : μ ≠ 0
  own : G.own r = μ
  fix : G.fix r = 0
  p4 : P.length ≤ 4096
  i5 : I.length ≤ 512
  at_ : ∃ pv iv, w.heap[r]? = some (.cells #[.int .i64 P.length, .int .i64 I.length, pv, iv] 71 (0, 0)) ∧ Zero G w pv (bls P) ∧ Zero G w iv (bls I)
section
variable {G G' : Gh} {μ r : Nat} {w w' : World} {P I : List Bool}
theorem RM.ext {K : Nat → Prop} (h : RM G μ w r P I) (hx : Ext K G w G' w') (hm : ¬ K μ) (h0 : ¬ K 0) : RM G' μ w' r P I := by
  obtain ⟨h1, h2, h3, h4, h5, pv, iv, h6, h7, h8⟩ := h
  have hlt := hx.lt h6
  exact ⟨h1, by rw [hx.own r hlt]; exact h2, by rw [hx.fixe r hlt (by rw [h2]; exact hm)]; exact h3, h4, h5, pv, iv, hx.heap h6 (by rw [h2]; exact hm), h7.ext hx h0, h8.ext hx h0⟩
theorem RM.grow (h : RM G μ w r P I) (hg : Grow w w') : RM G μ w' r P I := h.ext (K := fun _ => False) (.grow hg) id id
/-- A row is put in place of one. -/
theorem RM.putP (h : RM G μ w r P I) {w1 : World} {P' : List Bool} {u : Value} (hg : Grow w w1) (hu : (w1.ownsRow w.heap.size 4 1 u P.length (bls P')) ∨ (w1.cell? ⟨r, 2, none⟩ = some u ∧ P' = P)) (hl : P'.length = P.length) (hc : isCell u = true) :
    ∃ w2 G', stF w1 (.pointer (some ⟨r, 2, none⟩)) u = some (undef, w2) ∧ RM G' μ w2 r P' I ∧ Ext (fun c => c = μ) G w G' w2 := by
  obtain ⟨h1, h2, h3, h4, h5, pv, iv, h6, h7, h8⟩ := h
  have h6' := hg.gheap h6
  have hx : Ext0 G w (G.upto w.heap.size (fun _ => 0) (fun _ => 0)) w1 := .upto hg _ _
  have hrl := hx.lt h6
  have ho : (G.upto w.heap.size (fun _ => 0) (fun _ => 0)).own r = μ ∧ (G.upto w.heap.size (fun _ => 0) (fun _ => 0)).fix r = 0 := by
    rw [hx.own r hrl, hx.fixe r hrl id]; exact ⟨h2, h3⟩
  have h7' := h7.ext hx id
  have h8' := h8.ext hx id
  have hu' : Zero (G.upto w.heap.size (fun _ => 0) (fun _ => 0)) w1 u (bls P') := by
    rcases hu with hu | ⟨hu, rfl⟩
    · exact ⟨Has.own hu, fun b hb _ => ⟨(World.ownsRow.lt hu b hb).2, (upto_own (World.ownsRow.lt hu b hb).1).1⟩⟩
    · have : u = pv := by rw [cell_block h6'] at hu; exact (Option.some.inj hu).symm
      rw [this]; exact h7'
  generalize (G.upto w.heap.size (fun _ => 0) (fun _ => 0)) = G1 at hx ho h7' h8' hu'
  obtain ⟨w2, hst, hb2, hk2⟩ := cell_store (i := 2) h6' (by simp) hc
  have hx2 : Ext (fun c => c = μ) G1 w1 G1 w2 := .on0 hk2 ho.1 ho.2
  refine ⟨w2, G1, hst, ⟨h1, ho.1, ho.2, by rw [hl]; exact h4, h5, u, iv, ?_, hu'.ext hx2 (fun hh => h1 hh.symm), h8'.ext hx2 (fun hh => h1 hh.symm)⟩, (hx.mono (fun _ h => h.elim)).trans hx2⟩
  rw [hb2, hl]; rfl
theorem RM.putI (h : RM G μ w r P I) {w1 : World} {I' : List Bool} {u : Value} (hg : Grow w w1) (hu : (w1.ownsRow w.heap.size 4 1 u I.length (bls I')) ∨ (w1.cell? ⟨r, 3, none⟩ = some u ∧ I' = I)) (hl : I'.length = I.length) (hc : isCell u = true) :
    ∃ w2 G', stF w1 (.pointer (some ⟨r, 3, none⟩)) u = some (undef, w2) ∧ RM G' μ w2 r P I' ∧ Ext (fun c => c = μ) G w G' w2 := by
  obtain ⟨h1, h2, h3, h4, h5, pv, iv, h6, h7, h8⟩ := h
  have h6' := hg.gheap h6
  have hx : Ext0 G w (G.upto w.heap.size (fun _ => 0) (fun _ => 0)) w1 := .upto hg _ _
  have hrl := hx.lt h6
  have ho : (G.upto w.heap.size (fun _ => 0) (fun _ => 0)).own r = μ ∧ (G.upto w.heap.size (fun _ => 0) (fun _ => 0)).fix r = 0 := by
    rw [hx.own r hrl, hx.fixe r hrl id]; exact ⟨h2, h3⟩
  have h7' := h7.ext hx id
  have h8' := h8.ext hx id
  have hu' : Zero (G.upto w.heap.size (fun _ => 0) (fun _ => 0)) w1 u (bls I') := by
    rcases hu with hu | ⟨hu, rfl⟩
    · exact ⟨Has.own hu, fun b hb _ => ⟨(World.ownsRow.lt hu b hb).2, (upto_own (World.ownsRow.lt hu b hb).1).1⟩⟩
    · have : u = iv := by rw [cell_block h6'] at hu; exact (Option.some.inj hu).symm
      rw [this]; exact h8'
  generalize (G.upto w.heap.size (fun _ => 0) (fun _ => 0)) = G1 at hx ho h7' h8' hu'
  obtain ⟨w2, hst, hb2, hk2⟩ := cell_store (i := 3) h6' (by simp) hc
  have hx2 : Ext (fun c => c = μ) G1 w1 G1 w2 := .on0 hk2 ho.1 ho.2
  refine ⟨w2, G1, hst, ⟨h1, ho.1, ho.2, h4, by rw [hl]; exact h5, pv, u, ?_, h7'.ext hx2 (fun hh => h1 hh.symm), hu'.ext hx2 (fun hh => h1 hh.symm)⟩, (hx.mono (fun _ h => h.elim)).trans hx2⟩
  rw [hb2, hl]; rfl
theorem RM.cells (h : RM G μ w r P I) : ∃ pv iv, Has 1 w pv (bls P) ∧ Has 1 w iv (bls I) ∧ ∀ {w'}, Grow w w' → w'.cell? ⟨r, 0, none⟩ = some (.int .i64 P.length) ∧ w'.cell? ⟨r, 1, none⟩ = some (.int .i64 I.length) ∧ w'.cell? ⟨r, 2, none⟩ = some pv ∧ w'.cell? ⟨r, 3, none⟩ = some iv := by
  obtain ⟨h1, h2, h3, h4, h5, pv, iv, h6, h7, h8⟩ := h
  refine ⟨pv, iv, h7.1, h8.1, fun hg => ?_⟩
  have h6' := hg.gheap h6
  exact ⟨by rw [cell_block h6']; rfl, by rw [cell_block h6']; rfl, by rw [cell_block h6']; rfl, by rw [cell_block h6']; rfl⟩
theorem rpage_spec (h : RM G μ w r P I) : Calls Tryz.prog 39 #[.pointer (some ⟨r, 0, none⟩)] w (Ret fun v w' => v = .tuple #[.int .i64 (takeN P), .int .i64 (takeC P)] ∧ ∃ G', RM G' μ w' r (takeL P) I ∧ Ext (fun c => c = μ) G w G' w') := by
  obtain ⟨pv, iv, hp, hi, hc⟩ := h.cells
  apply enter39
  apply R_in
  simp (maxSteps := 1000000) (disch := omega) only [↓sy1, sy2, sy3, readOK, sy5, sy6, Nat.reduceEqDiff, ↓reduceIte, sy7, sy8, sy9, sya, oneOf, syb, syc, Nat.reduceAdd, Nat.reduceMul, syd, sye, syf, syg, syh, reduceCtorEq, F39, (hc (Keep.refl _ _)).2.2.1]
  refine call0 (rtake_spec hp h.p4) ?_
  rintro _ w1 ⟨⟨u, rfl, hu⟩, hg1⟩
  have huc : isCell u = true := by
    rcases hu with hu | ⟨rfl, _⟩
    · exact (Has.own hu).isCell
    · exact hp.isCell
  obtain ⟨w2, G2, hst, hR, hx⟩ := h.putP hg1 (P' := takeL P) (u := u) (hu.imp id (fun hh => ⟨by rw [hh.1]; exact (hc hg1).2.2.1, hh.2⟩)) (takeL_length P) huc
  simp (maxSteps := 1000000) (disch := omega) only [↓sy1, sy2, sy3, readOK, sy5, sy6, Nat.reduceEqDiff, ↓reduceIte, sy7, sy8, sy9, sya, oneOf, syb, syc, Nat.reduceAdd, Nat.reduceMul, syd, sye, syf, syg, syh, reduceCtorEq, hst]
  exact R_out ⟨G2, hR, hx⟩
theorem rinode_spec (h : RM G μ w r P I) : Calls Tryz.prog 40 #[.pointer (some ⟨r, 0, none⟩)] w (Ret fun v w' => v = .tuple #[.int .i64 (takeN I), .int .i64 (takeC I)] ∧ ∃ G', RM G' μ w' r P (takeL I) ∧ Ext (fun c => c = μ) G w G' w') := by
  obtain ⟨pv, iv, hp, hi, hc⟩ := h.cells
  have h5 := h.i5
  apply enter40
  apply R_in
  simp (maxSteps := 1000000) (disch := omega) only [↓sy1, sy2, sy3, readOK, sy5, sy6, Nat.reduceEqDiff, ↓reduceIte, sy7, sy8, sy9, sya, oneOf, syb, syc, Nat.reduceAdd, Nat.reduceMul, syd, sye, syf, syg, syh, reduceCtorEq, F40, (hc (Keep.refl _ _)).2.2.2]
  refine call0 (rtake_spec hi (by omega)) ?_
  rintro _ w1 ⟨⟨u, rfl, hu⟩, hg1⟩
  have huc : isCell u = true := by
    rcases hu with hu | ⟨rfl, _⟩
    · exact (Has.own hu).isCell
    · exact hi.isCell
  obtain ⟨w2, G2, hst, hR, hx⟩ := h.putI hg1 (I' := takeL I) (u := u) (hu.imp id (fun hh => ⟨by rw [hh.1]; exact (hc hg1).2.2.2, hh.2⟩)) (takeL_length I) huc
  simp (maxSteps := 1000000) (disch := omega) only [↓sy1, sy2, sy3, readOK, sy5, sy6, Nat.reduceEqDiff, ↓reduceIte, sy7, sy8, sy9, sya, oneOf, syb, syc, Nat.reduceAdd, Nat.reduceMul, syd, sye, syf, syg, syh, reduceCtorEq, hst]
  exact R_out ⟨G2, hR, hx⟩
theorem rfirst_spec (h : RM G μ w r P I) : Calls Tryz.prog 36 #[.pointer (some ⟨r, 0, none⟩)] w (Ret fun v w' => v = .int .i64 ((3 + I.length / 8 : Nat) : Int) ∧ w' = w) := by
  obtain ⟨pv, iv, hp, hi, hc⟩ := h.cells
  have h5 := h.i5
  apply enter36
  apply R_in
  simp (maxSteps := 1000000) (disch := omega) only [↓sy1, sy2, sy3, readOK, sy5, sy6, Nat.reduceEqDiff, ↓reduceIte, sy7, sy8, sy9, sya, oneOf, syb, syc, Nat.reduceAdd, Nat.reduceMul, syd, sye, syf, syg, syh, reduceCtorEq, F36, (hc (Keep.refl _ _)).2.1, tdiv8]
  exact R_out (congrArg (Value.int .i64) (by omega))
theorem rgivep_spec (h : RM G μ w r P I) {n : Int} : Calls Tryz.prog 41 #[.pointer (some ⟨r, 0, none⟩), .int .i64 n] w (Ret fun v w' => v = .int .i64 (giveC P n (3 + I.length / 8 : Nat)) ∧ ∃ G', RM G' μ w' r (giveL P n (3 + I.length / 8 : Nat)) I ∧ Ext (fun c => c = μ) G w G' w') := by
  obtain ⟨pv, iv, hp, hi, hc⟩ := h.cells
  apply enter41
  apply R_in
  simp (maxSteps := 1000000) (disch := omega) only [↓sy1, sy2, sy3, readOK, sy5, sy6, Nat.reduceEqDiff, ↓reduceIte, sy7, sy8, sy9, sya, oneOf, syb, syc, Nat.reduceAdd, Nat.reduceMul, syd, sye, syf, syg, syh, reduceCtorEq, F41]
  refine draw41_0 (fun _ => False) ?_
  have hgd : Grow w w.drew := (Keep.refl _ _).drew
  have hd := h.grow hgd
  have hcd := hc hgd
  have hxd : Ext0 G w G w.drew := .grow hgd
  have hc' : ∀ {w'}, Grow w.drew w' → w'.cell? ⟨r, 2, none⟩ = some pv := fun hg => (hc (hgd.trans hg)).2.2.1
  have hp' := hp.grow hgd
  generalize w.drew = w0 at hgd hd hcd hxd hc' hp' ⊢
  simp (maxSteps := 1000000) (disch := omega) only [↓sy1, sy2, sy3, readOK, sy5, sy6, Nat.reduceEqDiff, ↓reduceIte, sy7, sy8, sy9, sya, oneOf, syb, syc, Nat.reduceAdd, Nat.reduceMul, syd, sye, syf, syg, syh, reduceCtorEq, PL41_0, hcd]
  refine call0 (rfirst_spec hd) ?_
  rintro _ w0 ⟨rfl, rfl⟩
  simp (maxSteps := 1000000) (disch := omega) only [↓sy1, sy2, sy3, readOK, sy5, sy6, Nat.reduceEqDiff, ↓reduceIte, sy7, sy8, sy9, sya, oneOf, syb, syc, Nat.reduceAdd, Nat.reduceMul, syd, sye, syf, syg, syh, reduceCtorEq]
  refine ⟨Keep.refl _ _, ?_⟩
  refine call0 (rgive_spec hp' h.p4 (n := n) (k := ((3 + I.length / 8 : Nat) : Int)) (by omega)) ?_
  rintro _ w1 ⟨⟨u, rfl, hu⟩, hg1⟩
  have huc : isCell u = true := by
    rcases hu with hu | ⟨rfl, _⟩
    · exact (Has.own hu).isCell
    · exact hp.isCell
  obtain ⟨w2, G2, hst, hR, hx⟩ := hd.putP hg1 (P' := giveL P n (3 + I.length / 8 : Nat)) (u := u) (hu.imp id (fun hh => ⟨by rw [hh.1]; exact hc' hg1, hh.2⟩)) (giveL_length _ _ _) huc
  simp (maxSteps := 1000000) (disch := omega) only [↓sy1, sy2, sy3, readOK, sy5, sy6, Nat.reduceEqDiff, ↓reduceIte, sy7, sy8, sy9, sya, oneOf, syb, syc, Nat.reduceAdd, Nat.reduceMul, syd, sye, syf, syg, syh, reduceCtorEq, hst]
  exact R_out ⟨G2, hR, (hxd.mono (fun _ h => h.elim)).trans hx⟩
theorem rgivei_spec (h : RM G μ w r P I) {n : Int} : Calls Tryz.prog 42 #[.pointer (some ⟨r, 0, none⟩), .int .i64 n] w (Ret fun v w' => v = .int .i64 (giveC I n 1) ∧ ∃ G', RM G' μ w' r P (giveL I n 1) ∧ Ext (fun c => c = μ) G w G' w') := by
  obtain ⟨pv, iv, hp, hi, hc⟩ := h.cells
  have h5 := h.i5
  apply enter42
  apply R_in
  simp (maxSteps := 1000000) (disch := omega) only [↓sy1, sy2, sy3, readOK, sy5, sy6, Nat.reduceEqDiff, ↓reduceIte, sy7, sy8, sy9, sya, oneOf, syb, syc, Nat.reduceAdd, Nat.reduceMul, syd, sye, syf, syg, syh, reduceCtorEq, F42, (hc (Keep.refl _ _)).2.2.2]
  refine call0 (rgive_spec hi (by omega) (n := n) (k := 1) (by omega)) ?_
  rintro _ w1 ⟨⟨u, rfl, hu⟩, hg1⟩
  have huc : isCell u = true := by
    rcases hu with hu | ⟨rfl, _⟩
    · exact (Has.own hu).isCell
    · exact hi.isCell
  obtain ⟨w2, G2, hst, hR, hx⟩ := h.putI hg1 (I' := giveL I n 1) (u := u) (hu.imp id (fun hh => ⟨by rw [hh.1]; exact (hc hg1).2.2.2, hh.2⟩)) (giveL_length _ _ _) huc
  simp (maxSteps := 1000000) (disch := omega) only [↓sy1, sy2, sy3, readOK, sy5, sy6, Nat.reduceEqDiff, ↓reduceIte, sy7, sy8, sy9, sya, oneOf, syb, syc, Nat.reduceAdd, Nat.reduceMul, syd, sye, syf, syg, syh, reduceCtorEq, hst]
  exact R_out ⟨G2, hR, hx⟩
theorem rfree_spec (h : RM G μ w r P I) : Calls Tryz.prog 49 #[.pointer (some ⟨r, 0, none⟩)] w (Ret fun v w' => v = .tuple #[.int .i64 (freeN P), .int .i64 (freeN I)] ∧ Grow w w') := by
  obtain ⟨pv, iv, hp, hi, hc⟩ := h.cells
  have h5 := h.i5
  apply enter49
  apply R_in
  simp (maxSteps := 1000000) (disch := omega) only [↓sy1, sy2, sy3, readOK, sy5, sy6, Nat.reduceEqDiff, ↓reduceIte, sy7, sy8, sy9, sya, oneOf, syb, syc, Nat.reduceAdd, Nat.reduceMul, syd, sye, syf, syg, syh, reduceCtorEq, F49]
  refine draw49_0 (fun _ => False) ?_
  have hgd : Grow w w.drew := (Keep.refl _ _).drew
  have hcd := hc hgd
  have hp' := hp.grow hgd
  have hi' := hi.grow hgd
  generalize w.drew = w0 at hgd hcd hp' hi' ⊢
  simp (maxSteps := 1000000) (disch := omega) only [↓sy1, sy2, sy3, readOK, sy5, sy6, Nat.reduceEqDiff, ↓reduceIte, sy7, sy8, sy9, sya, oneOf, syb, syc, Nat.reduceAdd, Nat.reduceMul, syd, sye, syf, syg, syh, reduceCtorEq, PL49_0, hcd]
  refine call0 (rcount_spec hp' h.p4) ?_
  rintro _ w0 ⟨rfl, rfl⟩
  simp (maxSteps := 1000000) (disch := omega) only [↓sy1, sy2, sy3, readOK, sy5, sy6, Nat.reduceEqDiff, ↓reduceIte, sy7, sy8, sy9, sya, oneOf, syb, syc, Nat.reduceAdd, Nat.reduceMul, syd, sye, syf, syg, syh, reduceCtorEq]
  refine ⟨Keep.refl _ _, ?_⟩
  refine call0 (rcount_spec hi' (by omega)) ?_
  rintro _ w0 ⟨rfl, rfl⟩
  simp (maxSteps := 1000000) (disch := omega) only [↓sy1, sy2, sy3, readOK, sy5, sy6, Nat.reduceEqDiff, ↓reduceIte, sy7, sy8, sy9, sya, oneOf, syb, syc, Nat.reduceAdd, Nat.reduceMul, syd, sye, syf, syg, syh, reduceCtorEq]
  exact R_out hgd
theorem rpages_spec (h : RM G μ w r P I) : Calls Tryz.prog 50 #[.pointer (some ⟨r, 0, none⟩)] w (Ret fun v w' => v = .int .i64 P.length ∧ w' = w) := by
  obtain ⟨pv, iv, hp, hi, hc⟩ := h.cells
  apply enter50
  apply R_in
  simp (maxSteps := 1000000) (disch := omega) only [↓sy1, sy2, sy3, readOK, sy5, sy6, Nat.reduceEqDiff, ↓reduceIte, sy7, sy8, sy9, sya, oneOf, syb, syc, Nat.reduceAdd, Nat.reduceMul, syd, sye, syf, syg, syh, reduceCtorEq, F50, (hc (Keep.refl _ _)).1]
  exact R_out trivial
theorem rinodes_spec (h : RM G μ w r P I) : Calls Tryz.prog 54 #[.pointer (some ⟨r, 0, none⟩)] w (Ret fun v w' => v = .int .i64 I.length ∧ w' = w) := by
  obtain ⟨pv, iv, hp, hi, hc⟩ := h.cells
  apply enter54
  apply R_in
  simp (maxSteps := 1000000) (disch := omega) only [↓sy1, sy2, sy3, readOK, sy5, sy6, Nat.reduceEqDiff, ↓reduceIte, sy7, sy8, sy9, sya, oneOf, syb, syc, Nat.reduceAdd, Nat.reduceMul, syd, sye, syf, syg, syh, reduceCtorEq, F54, (hc (Keep.refl _ _)).2.1]
  exact R_out trivial
theorem rused_spec (h : RM G μ w r P I) {n : Int} : Calls Tryz.prog 51 #[.pointer (some ⟨r, 0, none⟩), .int .i64 n] w (Ret fun v w' => v = .bool (usedC P n) ∧ w' = w) := by
  obtain ⟨pv, iv, hp, hi, hc⟩ := h.cells
  have hlen : ∀ w', lenF w' 0 pv = some (.int .i64 P.length) := fun w' => by rw [hp.len, bls_length]
  apply enter51
  apply R_in
  by_cases h0 : 0 ≤ n
  · by_cases h1 : n < P.length
    · obtain ⟨i, rfl⟩ : ∃ i : Nat, n = i := ⟨n.toNat, by omega⟩
      obtain ⟨a, ha, hca, _⟩ := hp.getL (i := i) (by omega)
      simp (maxSteps := 1000000) (disch := omega) only [↓sy1, sy2, sy3, readOK, sy5, sy6, Nat.reduceEqDiff, ↓reduceIte, sy7, sy8, sy9, sya, oneOf, syb, syc, Nat.reduceAdd, Nat.reduceMul, syd, sye, syf, syg, syh, reduceCtorEq, F51, h0, (hc (Keep.refl _ _)).2.2.1, hlen, h1, decide_true, ha, hca]
      refine R_out ?_
      unfold usedC
      rw [decide_eq_true (by omega), Bool.true_and, show ((i : Int)).toNat = i from rfl, List.getD_eq_getElem?_getD, List.getElem?_eq_getElem (by omega)]
      rfl
    · simp (maxSteps := 1000000) (disch := omega) only [↓sy1, sy2, sy3, readOK, sy5, sy6, Nat.reduceEqDiff, ↓reduceIte, sy7, sy8, sy9, sya, oneOf, syb, syc, Nat.reduceAdd, Nat.reduceMul, syd, sye, syf, syg, syh, reduceCtorEq, F51, h0, (hc (Keep.refl _ _)).2.2.1, hlen, h1, decide_true, decide_false]
      refine R_out ?_
      unfold usedC
      rw [decide_eq_false (by omega)]; rfl
  · simp (maxSteps := 1000000) (disch := omega) only [↓sy1, sy2, sy3, readOK, sy5, sy6, Nat.reduceEqDiff, ↓reduceIte, sy7, sy8, sy9, sya, oneOf, syb, syc, Nat.reduceAdd, Nat.reduceMul, syd, sye, syf, syg, syh, reduceCtorEq, F51, h0, decide_false]
    refine R_out ?_
    unfold usedC
    rw [decide_eq_false (by omega)]; rfl
theorem rusedi_spec (h : RM G μ w r P I) {n : Int} : Calls Tryz.prog 52 #[.pointer (some ⟨r, 0, none⟩), .int .i64 n] w (Ret fun v w' => v = .bool (usedC I n) ∧ w' = w) := by
  obtain ⟨pv, iv, hp, hi, hc⟩ := h.cells
  have hlen : ∀ w', lenF w' 0 iv = some (.int .i64 I.length) := fun w' => by rw [hi.len, bls_length]
  apply enter52
  apply R_in
  by_cases h0 : 0 ≤ n
  · by_cases h1 : n < I.length
    · obtain ⟨i, rfl⟩ : ∃ i : Nat, n = i := ⟨n.toNat, by omega⟩
      obtain ⟨a, ha, hca, _⟩ := hi.getL (i := i) (by omega)
      simp (maxSteps := 1000000) (disch := omega) only [↓sy1, sy2, sy3, readOK, sy5, sy6, Nat.reduceEqDiff, ↓reduceIte, sy7, sy8, sy9, sya, oneOf, syb, syc, Nat.reduceAdd, Nat.reduceMul, syd, sye, syf, syg, syh, reduceCtorEq, F52, h0, (hc (Keep.refl _ _)).2.2.2, hlen, h1, decide_true, ha, hca]
      refine R_out ?_
      unfold usedC
      rw [decide_eq_true (by omega), Bool.true_and, show ((i : Int)).toNat = i from rfl, List.getD_eq_getElem?_getD, List.getElem?_eq_getElem (by omega)]
      rfl
    · simp (maxSteps := 1000000) (disch := omega) only [↓sy1, sy2, sy3, readOK, sy5, sy6, Nat.reduceEqDiff, ↓reduceIte, sy7, sy8, sy9, sya, oneOf, syb, syc, Nat.reduceAdd, Nat.reduceMul, syd, sye, syf, syg, syh, reduceCtorEq, F52, h0, (hc (Keep.refl _ _)).2.2.2, hlen, h1, decide_true, decide_false]
      refine R_out ?_
      unfold usedC
      rw [decide_eq_false (by omega)]; rfl
  · simp (maxSteps := 1000000) (disch := omega) only [↓sy1, sy2, sy3, readOK, sy5, sy6, Nat.reduceEqDiff, ↓reduceIte, sy7, sy8, sy9, sya, oneOf, syb, syc, Nat.reduceAdd, Nat.reduceMul, syd, sye, syf, syg, syh, reduceCtorEq, F52, h0, decide_false]
    refine R_out ?_
    unfold usedC
    rw [decide_eq_false (by omega)]; rfl
theorem rtable_spec (h : RM G μ w r P I) {i : Int} : Calls Tryz.prog 23 #[.pointer (some ⟨r, 0, none⟩), .int .i64 i] w (Ret fun v w' => v = tableC I.length i ∧ w' = w) := by
  obtain ⟨pv, iv, hp, hi', hc⟩ := h.cells
  have h5 := h.i5
  apply enter23
  apply R_in
  by_cases hi : i < 0 ∨ (I.length : Int) ≤ i
  · rw [tableC, if_pos hi]
    by_cases h0 : i < 0
    · simp (maxSteps := 1000000) (disch := omega) only [↓sy1, sy2, sy3, readOK, sy5, sy6, Nat.reduceEqDiff, ↓reduceIte, sy7, sy8, sy9, sya, oneOf, syb, syc, Nat.reduceAdd, Nat.reduceMul, syd, sye, syf, syg, syh, reduceCtorEq, F23, h0, decide_true]
      exact R_out trivial
    · simp (maxSteps := 1000000) (disch := omega) only [↓sy1, sy2, sy3, readOK, sy5, sy6, Nat.reduceEqDiff, ↓reduceIte, sy7, sy8, sy9, sya, oneOf, syb, syc, Nat.reduceAdd, Nat.reduceMul, syd, sye, syf, syg, syh, reduceCtorEq, F23, (hc (Keep.refl _ _)).2.1, h0, decide_false, show (I.length : Int) ≤ i from by omega, decide_true]
      exact R_out trivial
  · rw [tableC, if_neg hi]
    obtain ⟨j, rfl⟩ : ∃ j : Nat, i = j := ⟨i.toNat, by omega⟩
    simp (maxSteps := 1000000) (disch := omega) only [↓sy1, sy2, sy3, readOK, sy5, sy6, Nat.reduceEqDiff, ↓reduceIte, sy7, sy8, sy9, sya, oneOf, syb, syc, Nat.reduceAdd, Nat.reduceMul, syd, sye, syf, syg, syh, reduceCtorEq, F23, (hc (Keep.refl _ _)).2.1, show ¬ ((j : Int) < 0) from by omega, decide_false, show ¬ ((I.length : Int) ≤ (j : Int)) from by omega, tdiv8, tmod8]
    refine R_out ?_
    rw [show (3 : Int) + ((j / 8 : Nat) : Int) = 3 + (j : Int) / 8 from by omega, show (64 : Int) * ((j % 8 : Nat) : Int) = 64 * ((j : Int) % 8) from by omega]
end
end Go.Proofs.YtbnecclognibaaaGreat

/- The reference's map is made. -/
namespace Go.Proofs.YtbnecclognibaaaGreat
open Go
set_option linter.unusedSimpArgs false
open Go.RowKit (intOf)
theorem upto1_zero (N : Nat) : upto1 0 N = List.replicate N false := by
  refine List.ext_getElem? fun i => ?_
  by_cases hi : i < N
  · rw [upto1_get hi, List.getElem?_replicate, if_pos hi, decide_eq_false (by omega)]
  · rw [List.getElem?_eq_none (by rw [upto1_length]; omega), List.getElem?_eq_none (by rw [List.length_replicate]; omega)]
theorem rfirstc_spec {w : World} {r k : Nat} (hc : w.cell? ⟨r, 1, none⟩ = some (.int .i64 k)) (hk : k ≤ 100000) : Calls Tryz.prog 36 #[.pointer (some ⟨r, 0, none⟩)] w (Ret fun v w' => v = .int .i64 ((3 + k / 8 : Nat) : Int) ∧ w' = w) := by
  apply enter36
  apply R_in
  simp (maxSteps := 1000000) (disch := omega) only [↓sy1, sy2, sy3, readOK, sy5, sy6, Nat.reduceEqDiff, ↓reduceIte, sy7, sy8, sy9, sya, oneOf, syb, syc, Nat.reduceAdd, Nat.reduceMul, syd, sye, syf, syg, syh, reduceCtorEq, F36, hc, tdiv8]
  exact R_out (congrArg (Value.int .i64) (by omega))
theorem fillF_4 {a b c d x y z u : Value} (hx : isCell x = true) (hy : isCell y = true) (hz : isCell z = true) (hu : isCell u = true) : fillF #[a, b, c, d] [(0, 1, x), (1, 1, y), (2, 1, z), (3, 1, u)] = some #[x, y, z, u] := by
  rw [fillF_cell hx (by simp), fillF_cell hy (by simp), fillF_cell hz (by simp), fillF_cell hu (by simp), fillF_nil]; simp
/-- So many bools are made. -/
theorem mkb_rule {k : Kont} {e : Env} {w : World} {l : List GOp} {d : Option Nat} {x y : Operand} {n : Nat} {ty : TypeId} (hx : ev e x = .int .i64 n) (hy : ev e y = .int .i64 n) (hn : n ≤ 5000) (hh : ∀ v w', Grow w w' → w'.ownsRow w.heap.size 4 1 v n (bls (List.replicate n false)) → R (symOps Tryz.prog l k (updO e d v) w')) :
    R (symOps Tryz.prog (⟨d, .hard (H (.makeSlice 69 x y) ty), none⟩ :: l) k e w) := by
  refine mk_rule elemBo (kx := .i64) (ky := .i64) (a := n) (c := n) hx hy (by omega) (by omega) (by omega) (by omega) rfl ?_
  rw [show ((n : Int)).toNat = n from rfl]
  refine hh _ _ ((Keep.refl _ _).alloc _) ?_
  have ho7 := own_made w w.heap.size (Nat.le_refl _) 4 n (by omega) (.bool false)
  rw [show bls (List.replicate n false) = List.replicate n (.bool false) from List.map_replicate]; exact ho7
theorem rmake_bad {w : World} {N : Nat} {k : Int} (hk : ¬ mayA N k) :
    Calls Tryz.prog 9 #[.int .i64 N, .int .i64 k] w (Ret fun v w' => v = .tuple #[.pointer none, .int .i64 2] ∧ w' = w) := by
  apply enter9
  apply R_in
  unfold mayA at hk
  by_cases h1 : k < 8
  · simp (maxSteps := 1000000) (disch := omega) only [↓sy1, sy2, sy3, readOK, sy5, sy6, Nat.reduceEqDiff, ↓reduceIte, sy7, sy8, sy9, sya, oneOf, syb, syc, Nat.reduceAdd, Nat.reduceMul, syd, sye, syf, syg, syh, reduceCtorEq, F9, h1, decide_true]
    exact R_out trivial
  by_cases h2 : 512 < k
  · simp (maxSteps := 1000000) (disch := omega) only [↓sy1, sy2, sy3, readOK, sy5, sy6, Nat.reduceEqDiff, ↓reduceIte, sy7, sy8, sy9, sya, oneOf, syb, syc, Nat.reduceAdd, Nat.reduceMul, syd, sye, syf, syg, syh, reduceCtorEq, F9, h1, h2, decide_true, decide_false]
    exact R_out trivial
  obtain ⟨j, rfl⟩ : ∃ j : Nat, k = j := ⟨k.toNat, by omega⟩
  by_cases h3 : j % 8 = 0
  · by_cases h4 : N ≤ 4096
    · simp (maxSteps := 1000000) (disch := omega) only [↓sy1, sy2, sy3, readOK, sy5, sy6, Nat.reduceEqDiff, ↓reduceIte, sy7, sy8, sy9, sya, oneOf, syb, syc, Nat.reduceAdd, Nat.reduceMul, syd, sye, syf, syg, syh, reduceCtorEq, F9, h1, h2, decide_true, decide_false, tmod8, tdiv8, show (((j % 8 : Nat) : Int) = 0) from by omega, show ¬ ((4096 : Int) < (N : Int)) from by omega, show ((N : Int) ≤ 3 + ((j / 8 : Nat) : Int)) from by omega]
      exact R_out trivial
    · simp (maxSteps := 1000000) (disch := omega) only [↓sy1, sy2, sy3, readOK, sy5, sy6, Nat.reduceEqDiff, ↓reduceIte, sy7, sy8, sy9, sya, oneOf, syb, syc, Nat.reduceAdd, Nat.reduceMul, syd, sye, syf, syg, syh, reduceCtorEq, F9, h1, h2, decide_true, decide_false, tmod8, tdiv8, show (((j % 8 : Nat) : Int) = 0) from by omega, show ((4096 : Int) < (N : Int)) from by omega]
      exact R_out trivial
  · simp (maxSteps := 1000000) (disch := omega) only [↓sy1, sy2, sy3, readOK, sy5, sy6, Nat.reduceEqDiff, ↓reduceIte, sy7, sy8, sy9, sya, oneOf, syb, syc, Nat.reduceAdd, Nat.reduceMul, syd, sye, syf, syg, syh, reduceCtorEq, F9, h1, h2, decide_true, decide_false, tmod8, tdiv8, show ¬ (((j % 8 : Nat) : Int) = 0) from by omega]
    exact R_out trivial
set_option maxHeartbeats 4000000 in
theorem rmake_spec {w : World} {N k : Nat} (G : Gh) (μ : Nat) (hμ : μ ≠ 0) (hk : mayA N k) :
    Calls Tryz.prog 9 #[.int .i64 N, .int .i64 k] w (Ret fun v w' => ∃ r G', v = .tuple #[.pointer (some ⟨r, 0, none⟩), .int .i64 0] ∧ RM G' μ w' r (upto1 (3 + k / 8) N) (upto1 1 k) ∧ Ext0 G w G' w') := by
  apply enter9
  apply R_in
  have hk' := hk
  unfold mayA at hk'
  simp (maxSteps := 1000000) (disch := omega) only [↓sy1, sy2, sy3, readOK, sy5, sy6, Nat.reduceEqDiff, ↓reduceIte, sy7, sy8, sy9, sya, oneOf, syb, syc, Nat.reduceAdd, Nat.reduceMul, syd, sye, syf, syg, syh, reduceCtorEq, F9, show ¬ ((k : Int) < 8) from by omega, show ¬ ((512 : Int) < (k : Int)) from by omega, decide_true, decide_false, tmod8, tdiv8, show (((k % 8 : Nat) : Int) = 0) from by omega, show ¬ ((4096 : Int) < (N : Int)) from by omega, show ¬ ((N : Int) ≤ 3 + ((k / 8 : Nat) : Int)) from by omega]
  refine draw9_0 (fun _ => False) ?_
  have hgd : Grow w w.drew := (Keep.refl _ _).drew
  generalize hw0 : w.drew = w0 at hgd ⊢
  have hB0 := hgd.size
  clear hw0
  simp (maxSteps := 1000000) (disch := omega) only [↓sy1, sy2, sy3, readOK, sy5, sy6, Nat.reduceEqDiff, ↓reduceIte, sy7, sy8, sy9, sya, oneOf, syb, syc, Nat.reduceAdd, Nat.reduceMul, syd, sye, syf, syg, syh, reduceCtorEq, PL9_0]
  have fin : ∀ (e : Env) (w2 : World) (pv iv : Value), Grow w w2 → w2.ownsRow w.heap.size 4 1 pv N (bls (List.replicate N false)) → w2.ownsRow w.heap.size 4 1 iv k (bls (List.replicate k false)) → (∀ b, pv.ownBlock = some b → iv.ownBlock ≠ some b) →
      e 6 = .pointer (some ⟨w2.heap.size, 0, none⟩) → R (symS 56 Tryz.prog ((((SCode.ops [⟨some 7, .mv (.const (.int .i64 0)), none⟩]).seq (SCode.block 0 (.loop F9_L0))).seq
        ((SCode.ops [⟨some 50, .mv (.tmp 6), none⟩, ⟨some 51, .nilc (.tmp 50), none⟩, ⟨some 52, .fa 3 (.tmp 51), none⟩, ⟨some 53, .ld (.tmp 52), none⟩, ⟨some 54, .ia 1 (.tmp 53) (.const (.int .i64 0)), none⟩, ⟨none, .st (.tmp 54) (.const (.bool true)), none⟩]).seq
          ((SCode.ops [⟨some 55, .mv (.tmp 6), none⟩, ⟨some 4, .mv (.tmp 55), none⟩, ⟨some 5, .mv (.const (.int .i64 0)), none⟩]).seq SCode.ret))))
        ⟨fun e w_1 => ∃ r G', Value.tuple #[e 4, e 5] = .tuple #[.pointer (some ⟨r, 0, none⟩), .int .i64 0] ∧ RM G' μ w_1 r (upto1 (3 + k / 8) N) (upto1 1 k) ∧ Ext0 G w G' w_1, fun _ _ _ => False, fun e w_1 => ∃ r G', Value.tuple #[e 4, e 5] = .tuple #[.pointer (some ⟨r, 0, none⟩), .int .i64 0] ∧ RM G' μ w_1 r (upto1 (3 + k / 8) N) (upto1 1 k) ∧ Ext0 G w G' w_1, NoPanic⟩ e (w2.alloc (.cells #[.int .i64 N, .int .i64 k, pv, iv] 71))) := by
    intro e w2 pv iv hg2 hp hi hne e6
    have hg3 : Grow w2 (w2.alloc (.cells #[.int .i64 N, .int .i64 k, pv, iv] 71)) := (Keep.refl _ _).alloc _
    have hb3 := heap_alloc_new w2 (.cells #[.int .i64 N, .int .i64 k, pv, iv] 71)
    have hr := hg2.size
    generalize w2.alloc (.cells #[.int .i64 N, .int .i64 k, pv, iv] 71) = w3 at hg3 hb3 ⊢
    have hp3 := own_grow hp hg3
    have hi3 := own_grow hi hg3
    have hpr : ∀ b, pv.ownBlock = some b → b ≠ w2.heap.size := fun b hb => by have := (World.ownsRow.lt hp b hb).2; omega
    have hir : ∀ b, iv.ownBlock = some b → b ≠ w2.heap.size := fun b hb => by have := (World.ownsRow.lt hi b hb).2; omega
    have hg03 := hg2.trans hg3
    generalize w2.heap.size = r at hb3 e6 hr hpr hir
    rw [← upto1_zero] at hp3 hi3
    simp (maxSteps := 1000000) (disch := omega) only [↓sy1, sy2, sy3, readOK, sy5, sy6, Nat.reduceEqDiff, ↓reduceIte, sy7, sy8, sy9, sya, oneOf, syb, syc, Nat.reduceAdd, Nat.reduceMul, syd, sye, syf, syg, syh, reduceCtorEq]
    refine loop_rule (fun e w' => ∃ i : Nat, i ≤ 3 + k / 8 ∧ e 7 = .int .i64 i ∧ e 6 = .pointer (some ⟨r, 0, none⟩) ∧ w'.heap[r]? = some (.cells #[.int .i64 N, .int .i64 k, pv, iv] 71 (0, 0)) ∧ w'.ownsRow w.heap.size 4 1 pv N (bls (upto1 i N)) ∧ w'.ownsRow w.heap.size 4 1 iv k (bls (upto1 0 k)) ∧ Grow w w') (fun e _ => 3 + k / 8 - (intOf (e 7)).toNat)
      ⟨0, by omega, by simp [upd, updO, ev], by simp [upd, updO, ev, e6], hb3, hp3, hi3, hg03⟩ ?_
    clear hb3 hp3 hi3 hg03 hp hi hg2 hg3 e6
    rintro e w4 ⟨i, hi', e7, e6, hb4, hp4, hi4, hg4⟩
    have hc1 : w4.cell? ⟨r, 1, none⟩ = some (.int .i64 k) := by rw [cell_block hb4]; rfl
    have hc2 : w4.cell? ⟨r, 2, none⟩ = some pv := by rw [cell_block hb4]; rfl
    have hc3 : w4.cell? ⟨r, 3, none⟩ = some iv := by rw [cell_block hb4]; rfl
    by_cases hlt : i < 3 + k / 8
    · obtain ⟨a, w5, ha, hst, hp5, hk5, _⟩ := own_store hp4 (i := i) (by omega) (u := .bool true) rfl
      rw [bls_set, upto1_set (by omega)] at hp5
      simp (maxSteps := 1000000) (disch := omega) only [↓sy1, sy2, sy3, readOK, sy5, sy6, Nat.reduceEqDiff, ↓reduceIte, sy7, sy8, sy9, sya, oneOf, syb, syc, Nat.reduceAdd, Nat.reduceMul, syd, sye, syf, syg, syh, reduceCtorEq, F9_L0, e7, e6]
      refine call0 (rfirstc_spec hc1 (by omega)) ?_
      rintro _ w4 ⟨rfl, rfl⟩
      simp (maxSteps := 1000000) (disch := omega) only [↓sy1, sy2, sy3, readOK, sy5, sy6, Nat.reduceEqDiff, ↓reduceIte, sy7, sy8, sy9, sya, oneOf, syb, syc, Nat.reduceAdd, Nat.reduceMul, syd, sye, syf, syg, syh, reduceCtorEq, e7, e6, Int.ofNat_lt, hlt, decide_true, hc2, ha, hst]
      exact R_out ⟨⟨i + 1, by omega, rfl, hk5.heap hb4 (fun hh => hpr _ hh rfl), hp5, own_keep hi4 hk5 (fun b hb hh => hne b hh hb), hg4.then hk5 (fun b hb hh => by have := (World.ownsRow.lt hp4 b hh).1; omega)⟩, by simp only [intOf]; omega⟩
    · have hie : i = 3 + k / 8 := by omega
      subst hie
      obtain ⟨a, w5, ha, hst, hi5, hk5, _⟩ := own_store hi4 (i := 0) (by omega) (u := .bool true) rfl
      have ha : iaF 1 iv (.int .i64 0) = some (.pointer (some a)) := ha
      rw [bls_set, upto1_set (by omega)] at hi5
      have hp5 := own_keep hp4 hk5 (fun b hb hh => hne b hb hh)
      have hb5 := hk5.heap hb4 (fun hh => hir _ hh rfl)
      have hg5 : Grow w w5 := hg4.then hk5 (fun b hb hh => by have := (World.ownsRow.lt hi4 b hh).1; omega)
      simp (maxSteps := 1000000) (disch := omega) only [↓sy1, sy2, sy3, readOK, sy5, sy6, Nat.reduceEqDiff, ↓reduceIte, sy7, sy8, sy9, sya, oneOf, syb, syc, Nat.reduceAdd, Nat.reduceMul, syd, sye, syf, syg, syh, reduceCtorEq, F9_L0, e7, e6]
      refine call0 (rfirstc_spec hc1 (by omega)) ?_
      rintro _ w4 ⟨rfl, rfl⟩
      simp (maxSteps := 1000000) (disch := omega) only [↓sy1, sy2, sy3, readOK, sy5, sy6, Nat.reduceEqDiff, ↓reduceIte, sy7, sy8, sy9, sya, oneOf, syb, syc, Nat.reduceAdd, Nat.reduceMul, syd, sye, syf, syg, syh, reduceCtorEq, e7, e6, Int.ofNat_lt, Nat.lt_irrefl, decide_false, hc3, ha, hst]
      have hx : Ext0 G w (G.upto w.heap.size (fun b => if b = r then μ else 0) (fun _ => 0)) w5 := .upto hg5 _ _
      have hown : ∀ b, w.heap.size ≤ b → b ≠ r → (G.upto w.heap.size (fun b => if b = r then μ else 0) (fun _ => 0)).own b = 0 := fun b hb hbr => by simp [Gh.upto, Nat.not_lt.2 hb, hbr]
      refine R_out ⟨r, _, rfl, ⟨hμ, by simp [Gh.upto, Nat.not_lt.2 hr], by simp [Gh.upto, Nat.not_lt.2 hr], by rw [upto1_length]; omega, by rw [upto1_length]; omega, pv, iv, ?_, ⟨Has.own hp5, fun b hb _ => ⟨(World.ownsRow.lt hp5 b hb).2, hown b (World.ownsRow.lt hp5 b hb).1 (hpr b hb)⟩⟩, ⟨Has.own hi5, fun b hb _ => ⟨(World.ownsRow.lt hi5 b hb).2, hown b (World.ownsRow.lt hi5 b hb).1 (hir b hb)⟩⟩⟩, hx⟩
      rw [upto1_length, upto1_length]; exact hb5
  refine ⟨mkb_rule (n := N) (by simp only [upd_at, Nat.reduceEqDiff, reduceIte, ev_tmp, ev_const, List.map_cons, List.map_nil]) (by simp only [upd_at, Nat.reduceEqDiff, reduceIte, ev_tmp, ev_const, List.map_cons, List.map_nil]) (by omega) (fun pv w1 hg1 hp => ?_), mkb_rule (n := k) (by simp only [upd_at, Nat.reduceEqDiff, reduceIte, ev_tmp, ev_const, List.map_cons, List.map_nil]) (by simp only [upd_at, Nat.reduceEqDiff, reduceIte, ev_tmp, ev_const, List.map_cons, List.map_nil]) (by omega) (fun iv w1 hg1 hi => ?_)⟩
  · simp (maxSteps := 1000000) (disch := omega) only [↓sy1, sy2, sy3, readOK, sy5, sy6, Nat.reduceEqDiff, ↓reduceIte, sy7, sy8, sy9, sya, oneOf, syb, syc, Nat.reduceAdd, Nat.reduceMul, syd, sye, syf, syg, syh, reduceCtorEq]
    refine mkb_rule (n := k) (by simp only [upd_at, Nat.reduceEqDiff, reduceIte, ev_tmp, ev_const, List.map_cons, List.map_nil]) (by simp only [upd_at, Nat.reduceEqDiff, reduceIte, ev_tmp, ev_const, List.map_cons, List.map_nil]) (by omega) (fun iv w2 hg2 hi => ?_)
    have hpc := (Has.own hp).isCell
    have hic := (Has.own hi).isCell
    have hne : ∀ b, pv.ownBlock = some b → iv.ownBlock ≠ some b := fun b hb hh => by
      have := (World.ownsRow.lt hp b hb).2
      have := (World.ownsRow.lt hi b hh).1; omega
    have hg1s := hg1.size
    simp (maxSteps := 1000000) (disch := omega) only [↓sy1, sy2, sy3, readOK, sy5, sy6, Nat.reduceEqDiff, ↓reduceIte, sy7, sy8, sy9, sya, oneOf, syb, syc, Nat.reduceAdd, Nat.reduceMul, syd, sye, syf, syg, syh, reduceCtorEq, fill_gen, List.map_cons, List.map_nil, fillF_4 (x := .int .i64 (N : Int)) (y := .int .i64 (k : Int)) (z := pv) (u := iv) rfl rfl hpc hic, agg4_cells (x := .int .i64 (N : Int)) (y := .int .i64 (k : Int)) (z := pv) (u := iv) rfl rfl hpc hic]
    refine fin _ w2 pv iv ((hgd.trans hg1).trans hg2) (own_base (own_grow hp hg2) (by omega)) (own_base hi (by omega)) hne ?_
    simp [upd]
  · simp (maxSteps := 1000000) (disch := omega) only [↓sy1, sy2, sy3, readOK, sy5, sy6, Nat.reduceEqDiff, ↓reduceIte, sy7, sy8, sy9, sya, oneOf, syb, syc, Nat.reduceAdd, Nat.reduceMul, syd, sye, syf, syg, syh, reduceCtorEq]
    refine mkb_rule (n := N) (by simp only [upd_at, Nat.reduceEqDiff, reduceIte, ev_tmp, ev_const, List.map_cons, List.map_nil]) (by simp only [upd_at, Nat.reduceEqDiff, reduceIte, ev_tmp, ev_const, List.map_cons, List.map_nil]) (by omega) (fun pv w2 hg2 hp => ?_)
    have hpc := (Has.own hp).isCell
    have hic := (Has.own hi).isCell
    have hne : ∀ b, pv.ownBlock = some b → iv.ownBlock ≠ some b := fun b hb hh => by
      have := (World.ownsRow.lt hp b hb).1
      have := (World.ownsRow.lt hi b hh).2; omega
    have hg1s := hg1.size
    simp (maxSteps := 1000000) (disch := omega) only [↓sy1, sy2, sy3, readOK, sy5, sy6, Nat.reduceEqDiff, ↓reduceIte, sy7, sy8, sy9, sya, oneOf, syb, syc, Nat.reduceAdd, Nat.reduceMul, syd, sye, syf, syg, syh, reduceCtorEq, fill_gen, List.map_cons, List.map_nil, fillF_4 (x := .int .i64 (N : Int)) (y := .int .i64 (k : Int)) (z := pv) (u := iv) rfl rfl hpc hic, agg4_cells (x := .int .i64 (N : Int)) (y := .int .i64 (k : Int)) (z := pv) (u := iv) rfl rfl hpc hic]
    refine fin _ w2 pv iv ((hgd.trans hg1).trans hg2) (own_base hp (by omega)) (own_base (own_grow hi hg2) (by omega)) hne ?_
    simp [upd]
end Go.Proofs.YtbnecclognibaaaGreat

/- A deed on both maps; do both tell the same? -/
namespace Go.Proofs.YtbnecclognibaaaGreat
open Go
set_option linter.unusedSimpArgs false
open Go.RowKit (intOf)
structure Deed5 where
  kind : Int
  n : Int
def Deed5.val (x : Deed5) : Value := .agg #[.int .i64 x.kind, .int .i64 x.n]
def Deed5.onP (x : Deed5) (P I : List Bool) : List Bool := if x.kind = 0 then takeL P else if x.kind = 2 then giveL P x.n (3 + I.length / 8 : Nat) else P
def Deed5.onI (x : Deed5) (I : List Bool) : List Bool := if x.kind = 1 then takeL I else if x.kind = 3 then giveL I x.n 1 else I
/-- The log's, the cache's and the reference's owners. -/
def K5 (x : Nat) : Prop := x = 2 ∨ x = 7 ∨ x = 8
theorem K5.two {x : Nat} (h : x = 2 ∨ x = 7) : K5 x := h.elim .inl (fun h => .inr (.inl h))
theorem K5.seven {x : Nat} (h : x = 7) : K5 x := .inr (.inl h)
theorem K5.eight {x : Nat} (h : x = 8) : K5 x := .inr (.inr h)
section
variable {G : Gh} {m p lq r : Nat} {w : World} {c : Csh} {P I : List Bool}
theorem page_tk (h : MapAt G 2 7 w m p lq 0 c P I) (hroom : c.dirty.length + 2 ≤ c.cap) :
    Calls Tryz.prog 16 #[.pointer (some ⟨m, 0, none⟩)] w (Ret fun v w' => ∃ G' c', Ext (fun x => x = 7) G w G' w' ∧ v = .tuple #[.int .i64 (takeN P), .int .i64 (takeC P)] ∧ MapAt G' 2 7 w' m p lq 0 c' (takeL P) I ∧ Step c c' 2) := by
  by_cases hf : firstN P < P.length
  · refine Ret.mono (page_ok h hf hroom) fun _ _ ⟨G', c', h1, h2, h3, h4, _⟩ => ⟨G', c', h1, ?_, ?_, h4⟩
    · rw [takeN, takeC, if_pos hf, if_pos hf]; exact h2
    · rw [takeL, if_pos hf]; exact h3
  · refine Ret.mono (page_full h (Nat.le_antisymm (firstN_le P) (by omega))) fun _ _ ⟨G', h1, h2, h3⟩ => ⟨G', c, h1, ?_, ?_, (Step.zero c).le (by omega)⟩
    · rw [takeN, takeC, if_neg hf, if_neg hf]; exact h2
    · rw [takeL, if_neg hf]; exact h3
theorem inode_tk (h : MapAt G 2 7 w m p lq 0 c P I) (hroom : c.dirty.length + 1 ≤ c.cap) :
    Calls Tryz.prog 17 #[.pointer (some ⟨m, 0, none⟩)] w (Ret fun v w' => ∃ G' c', Ext (fun x => x = 7) G w G' w' ∧ v = .tuple #[.int .i64 (takeN I), .int .i64 (takeC I)] ∧ MapAt G' 2 7 w' m p lq 0 c' P (takeL I) ∧ Step c c' 1) := by
  by_cases hf : firstN I < I.length
  · refine Ret.mono (inode_ok h hf hroom) fun _ _ ⟨G', c', h1, h2, h3, h4, _⟩ => ⟨G', c', h1, ?_, ?_, h4⟩
    · rw [takeN, takeC, if_pos hf, if_pos hf]; exact h2
    · rw [takeL, if_pos hf]; exact h3
  · refine Ret.mono (inode_full h (Nat.le_antisymm (firstN_le I) (by omega))) fun _ _ ⟨G', h1, h2, h3⟩ => ⟨G', c, h1, ?_, ?_, (Step.zero c).le (by omega)⟩
    · rw [takeN, takeC, if_neg hf, if_neg hf]; exact h2
    · rw [takeL, if_neg hf]; exact h3
set_option maxHeartbeats 4000000 in
theorem do5_spec (hm : MapAt G 2 7 w m p lq 0 c P I) (hr : RM G 8 w r P I) (hroom : c.dirty.length + 2 ≤ c.cap) (ho : c.D.ops.length < 600000) (x : Deed5) :
    Calls Tryz.prog 12 #[.pointer (some ⟨m, 0, none⟩), .pointer (some ⟨r, 0, none⟩), x.val] w (Ret fun v w' => v = .bool true ∧ ∃ G' c', MapAt G' 2 7 w' m p lq 0 c' (x.onP P I) (x.onI I) ∧ RM G' 8 w' r (x.onP P I) (x.onI I) ∧ c'.dirty = [] ∧ c'.cap = c.cap ∧ c'.N = c.N ∧ c'.size = c.size ∧ c'.D.ops.length ≤ c.D.ops.length + 206 ∧ Ext K5 G w G' w') := by
  apply enter12
  apply R_in
  unfold Deed5.val
  simp (maxSteps := 1000000) (disch := omega) only [↓sy1, sy2, sy3, readOK, sy5, sy6, Nat.reduceEqDiff, ↓reduceIte, sy7, sy8, sy9, sya, oneOf, syb, syc, Nat.reduceAdd, Nat.reduceMul, syd, sye, syf, syg, syh, reduceCtorEq, F12, agg2_cells (x := .int .i64 x.kind) (y := .int .i64 x.n) rfl rfl]
  have hg0 : Grow w (w.alloc (.cells #[.int .i64 x.kind, .int .i64 x.n] 36)) := (Keep.refl _ _).alloc _
  have hb0 := heap_alloc_new w (.cells #[.int .i64 x.kind, .int .i64 x.n] 36)
  have hs0 : (w.alloc (.cells #[.int .i64 x.kind, .int .i64 x.n] 36)).heap.size = w.heap.size + 1 := by simp
  generalize w.alloc (.cells #[.int .i64 x.kind, .int .i64 x.n] 36) = w0 at hg0 hb0 hs0 ⊢
  have hx0 : Ext0 G w (G.upto w.heap.size (fun _ => 6) (fun _ => 0)) w0 := .upto hg0 _ _
  have hm0 := hm.ext hx0 id id id
  have hr0 := hr.ext hx0 id id
  have hob : (G.upto w.heap.size (fun _ => 6) (fun _ => 0)).own w.heap.size = 6 := (upto_own (Nat.le_refl _)).1
  generalize (G.upto w.heap.size (fun _ => 6) (fun _ => 0)) = G0 at hx0 hm0 hr0 hob
  have hcell : ∀ {w'}, Grow w0 w' → w'.cell? ⟨w.heap.size, 0, none⟩ = some (.int .i64 x.kind) ∧ w'.cell? ⟨w.heap.size, 1, none⟩ = some (.int .i64 x.n) := fun hg => by
    have := hg.gheap hb0
    exact ⟨by rw [cell_block this]; rfl, by rw [cell_block this]; rfl⟩
  by_cases k0 : x.kind = 0
  · have hP : x.onP P I = takeL P := if_pos k0
    have hI : x.onI I = I := by unfold Deed5.onI; rw [if_neg (by omega), if_neg (by omega)]
    simp (maxSteps := 1000000) (disch := omega) only [↓sy1, sy2, sy3, readOK, sy5, sy6, Nat.reduceEqDiff, ↓reduceIte, sy7, sy8, sy9, sya, oneOf, syb, syc, Nat.reduceAdd, Nat.reduceMul, syd, sye, syf, syg, syh, reduceCtorEq, (hcell (Keep.refl _ _)).1, k0, decide_true]
    refine call0 (page_tk hm0 (by omega)) ?_
    rintro _ w1 ⟨G1, c1, hx1, rfl, h1, hst1⟩
    simp (maxSteps := 1000000) (disch := omega) only [↓sy1, sy2, sy3, readOK, sy5, sy6, Nat.reduceEqDiff, ↓reduceIte, sy7, sy8, sy9, sya, oneOf, syb, syc, Nat.reduceAdd, Nat.reduceMul, syd, sye, syf, syg, syh, reduceCtorEq]
    refine call0 (rpage_spec (hr0.ext hx1 (by omega) (by omega))) ?_
    rintro _ w2 ⟨rfl, G2, hr2, hx2⟩
    simp (maxSteps := 1000000) (disch := omega) only [↓sy1, sy2, sy3, readOK, sy5, sy6, Nat.reduceEqDiff, ↓reduceIte, sy7, sy8, sy9, sya, oneOf, syb, syc, Nat.reduceAdd, Nat.reduceMul, syd, sye, syf, syg, syh, reduceCtorEq, decide_true]
    have hT : MapAt G2 2 7 w2 m p lq 0 c1 (x.onP P I) (x.onI I) := by rw [hP, hI]; exact (h1.ext hx2 (by omega) (by omega) (by omega))
    have hRT : RM G2 8 w2 r (x.onP P I) (x.onI I) := by rw [hP, hI]; exact hr2
    have hxT : Ext K5 G0 w0 G2 w2 := ((hx1.mono (fun _ h => K5.seven h)).trans (hx2.mono (fun _ h => K5.eight h)))
    obtain ⟨s1, s2, s3, s4, s5⟩ : Step c c1 2 := hst1
    refine call0 (mcache_spec hT.1) ?_
    rintro _ w2 ⟨rfl, rfl⟩
    simp (maxSteps := 1000000) (disch := omega) only [↓sy1, sy2, sy3, readOK, sy5, sy6, Nat.reduceEqDiff, ↓reduceIte, sy7, sy8, sy9, sya, oneOf, syb, syc, Nat.reduceAdd, Nat.reduceMul, syd, sye, syf, syg, syh, reduceCtorEq]
    refine call0 (mcommit_ok hT (by rw [s2]; omega)) ?_
    rintro _ w9 ⟨rfl, G9, hx9, h9⟩
    obtain ⟨z1, z2, z3, z5, z4⟩ := commit_facts hT.1.cache.oks
    simp (maxSteps := 1000000) (disch := omega) only [↓sy1, sy2, sy3, readOK, sy5, sy6, Nat.reduceEqDiff, ↓reduceIte, sy7, sy8, sy9, sya, oneOf, syb, syc, Nat.reduceAdd, Nat.reduceMul, syd, sye, syf, syg, syh, reduceCtorEq, decide_true]
    exact R_out ⟨G9, c1.commit, h9, hRT.ext hx9 (by omega) (by omega), z2, by rw [z3, s4], by rw [z1, s1], by rw [z5, s3], by rw [s2] at z4; omega, ((hx0.mono (fun _ h => h.elim)).trans hxT).trans (hx9.mono (fun _ h => K5.two h))⟩
  by_cases k1 : x.kind = 1
  · have hP : x.onP P I = P := by unfold Deed5.onP; rw [if_neg k0, if_neg (by omega)]
    have hI : x.onI I = takeL I := if_pos k1
    simp (maxSteps := 1000000) (disch := omega) only [↓sy1, sy2, sy3, readOK, sy5, sy6, Nat.reduceEqDiff, ↓reduceIte, sy7, sy8, sy9, sya, oneOf, syb, syc, Nat.reduceAdd, Nat.reduceMul, syd, sye, syf, syg, syh, reduceCtorEq, (hcell (Keep.refl _ _)).1, k1, decide_true, Int.reduceEq, decide_false]
    refine call0 (inode_tk hm0 (by omega)) ?_
    rintro _ w1 ⟨G1, c1, hx1, rfl, h1, hst1⟩
    simp (maxSteps := 1000000) (disch := omega) only [↓sy1, sy2, sy3, readOK, sy5, sy6, Nat.reduceEqDiff, ↓reduceIte, sy7, sy8, sy9, sya, oneOf, syb, syc, Nat.reduceAdd, Nat.reduceMul, syd, sye, syf, syg, syh, reduceCtorEq]
    refine call0 (rinode_spec (hr0.ext hx1 (by omega) (by omega))) ?_
    rintro _ w2 ⟨rfl, G2, hr2, hx2⟩
    simp (maxSteps := 1000000) (disch := omega) only [↓sy1, sy2, sy3, readOK, sy5, sy6, Nat.reduceEqDiff, ↓reduceIte, sy7, sy8, sy9, sya, oneOf, syb, syc, Nat.reduceAdd, Nat.reduceMul, syd, sye, syf, syg, syh, reduceCtorEq, decide_true]
    have hT : MapAt G2 2 7 w2 m p lq 0 c1 (x.onP P I) (x.onI I) := by rw [hP, hI]; exact (h1.ext hx2 (by omega) (by omega) (by omega))
    have hRT : RM G2 8 w2 r (x.onP P I) (x.onI I) := by rw [hP, hI]; exact hr2
    have hxT : Ext K5 G0 w0 G2 w2 := ((hx1.mono (fun _ h => K5.seven h)).trans (hx2.mono (fun _ h => K5.eight h)))
    obtain ⟨s1, s2, s3, s4, s5⟩ : Step c c1 2 := (hst1.le (by omega))
    refine call0 (mcache_spec hT.1) ?_
    rintro _ w2 ⟨rfl, rfl⟩
    simp (maxSteps := 1000000) (disch := omega) only [↓sy1, sy2, sy3, readOK, sy5, sy6, Nat.reduceEqDiff, ↓reduceIte, sy7, sy8, sy9, sya, oneOf, syb, syc, Nat.reduceAdd, Nat.reduceMul, syd, sye, syf, syg, syh, reduceCtorEq]
    refine call0 (mcommit_ok hT (by rw [s2]; omega)) ?_
    rintro _ w9 ⟨rfl, G9, hx9, h9⟩
    obtain ⟨z1, z2, z3, z5, z4⟩ := commit_facts hT.1.cache.oks
    simp (maxSteps := 1000000) (disch := omega) only [↓sy1, sy2, sy3, readOK, sy5, sy6, Nat.reduceEqDiff, ↓reduceIte, sy7, sy8, sy9, sya, oneOf, syb, syc, Nat.reduceAdd, Nat.reduceMul, syd, sye, syf, syg, syh, reduceCtorEq, decide_true]
    exact R_out ⟨G9, c1.commit, h9, hRT.ext hx9 (by omega) (by omega), z2, by rw [z3, s4], by rw [z1, s1], by rw [z5, s3], by rw [s2] at z4; omega, ((hx0.mono (fun _ h => h.elim)).trans hxT).trans (hx9.mono (fun _ h => K5.two h))⟩
  by_cases k2 : x.kind = 2
  · have hP : x.onP P I = giveL P x.n (3 + I.length / 8 : Nat) := by unfold Deed5.onP; rw [if_neg k0, if_pos k2]
    have hI : x.onI I = I := by unfold Deed5.onI; rw [if_neg k1, if_neg (by omega)]
    simp (maxSteps := 1000000) (disch := omega) only [↓sy1, sy2, sy3, readOK, sy5, sy6, Nat.reduceEqDiff, ↓reduceIte, sy7, sy8, sy9, sya, oneOf, syb, syc, Nat.reduceAdd, Nat.reduceMul, syd, sye, syf, syg, syh, reduceCtorEq, (hcell (Keep.refl _ _)).1, k2, decide_true, Int.reduceEq, decide_false]
    refine draw12_0 (fun b => G0.own b = 7) ?_
    have hgd : Grow w0 w0.drew := (Keep.refl _ _).drew
    have hmd := hm0.grow hgd
    have hrd := hr0.grow hgd
    have hcd := hcell hgd
    have hb7 : ¬ (G0.own w.heap.size = 7) := by rw [hob]; omega
    generalize w0.drew = w1 at hgd hmd hrd hcd ⊢
    simp (maxSteps := 1000000) (disch := omega) only [↓sy1, sy2, sy3, readOK, sy5, sy6, Nat.reduceEqDiff, ↓reduceIte, sy7, sy8, sy9, sya, oneOf, syb, syc, Nat.reduceAdd, Nat.reduceMul, syd, sye, syf, syg, syh, reduceCtorEq, PL12_0, hcd, hb7]
    refine call0 (givep_ok hmd (n := x.n) (by omega)) ?_
    rintro _ w2 ⟨G2, c2, hx2, rfl, h2, hst2, _⟩
    simp (maxSteps := 1000000) (disch := omega) only [↓sy1, sy2, sy3, readOK, sy5, sy6, Nat.reduceEqDiff, ↓reduceIte, sy7, sy8, sy9, sya, oneOf, syb, syc, Nat.reduceAdd, Nat.reduceMul, syd, sye, syf, syg, syh, reduceCtorEq]
    refine ⟨hx2.keep, ?_⟩
    refine call0 (rgivep_spec (hrd.ext hx2 (by omega) (by omega)) (n := x.n)) ?_
    rintro _ w3 ⟨rfl, G3, hr3, hx3⟩
    simp (maxSteps := 1000000) (disch := omega) only [↓sy1, sy2, sy3, readOK, sy5, sy6, Nat.reduceEqDiff, ↓reduceIte, sy7, sy8, sy9, sya, oneOf, syb, syc, Nat.reduceAdd, Nat.reduceMul, syd, sye, syf, syg, syh, reduceCtorEq, decide_true]
    have hT : MapAt G3 2 7 w3 m p lq 0 c2 (x.onP P I) (x.onI I) := by rw [hP, hI]; exact (h2.ext hx3 (by omega) (by omega) (by omega))
    have hRT : RM G3 8 w3 r (x.onP P I) (x.onI I) := by rw [hP, hI]; exact hr3
    have hxT : Ext K5 G0 w0 G3 w3 := (((Ext.grow hgd).trans (hx2.mono (fun _ h => K5.seven h))).trans (hx3.mono (fun _ h => K5.eight h)))
    obtain ⟨s1, s2, s3, s4, s5⟩ : Step c c2 2 := (hst2.le (by omega))
    refine call0 (mcache_spec hT.1) ?_
    rintro _ w3 ⟨rfl, rfl⟩
    simp (maxSteps := 1000000) (disch := omega) only [↓sy1, sy2, sy3, readOK, sy5, sy6, Nat.reduceEqDiff, ↓reduceIte, sy7, sy8, sy9, sya, oneOf, syb, syc, Nat.reduceAdd, Nat.reduceMul, syd, sye, syf, syg, syh, reduceCtorEq]
    refine call0 (mcommit_ok hT (by rw [s2]; omega)) ?_
    rintro _ w9 ⟨rfl, G9, hx9, h9⟩
    obtain ⟨z1, z2, z3, z5, z4⟩ := commit_facts hT.1.cache.oks
    simp (maxSteps := 1000000) (disch := omega) only [↓sy1, sy2, sy3, readOK, sy5, sy6, Nat.reduceEqDiff, ↓reduceIte, sy7, sy8, sy9, sya, oneOf, syb, syc, Nat.reduceAdd, Nat.reduceMul, syd, sye, syf, syg, syh, reduceCtorEq, decide_true]
    exact R_out ⟨G9, c2.commit, h9, hRT.ext hx9 (by omega) (by omega), z2, by rw [z3, s4], by rw [z1, s1], by rw [z5, s3], by rw [s2] at z4; omega, ((hx0.mono (fun _ h => h.elim)).trans hxT).trans (hx9.mono (fun _ h => K5.two h))⟩
  by_cases k3 : x.kind = 3
  · have hP : x.onP P I = P := by unfold Deed5.onP; rw [if_neg k0, if_neg k2]
    have hI : x.onI I = giveL I x.n 1 := by unfold Deed5.onI; rw [if_neg k1, if_pos k3]
    simp (maxSteps := 1000000) (disch := omega) only [↓sy1, sy2, sy3, readOK, sy5, sy6, Nat.reduceEqDiff, ↓reduceIte, sy7, sy8, sy9, sya, oneOf, syb, syc, Nat.reduceAdd, Nat.reduceMul, syd, sye, syf, syg, syh, reduceCtorEq, (hcell (Keep.refl _ _)).1, k3, decide_true, Int.reduceEq, decide_false]
    refine draw12_1 (fun b => G0.own b = 7) ?_
    have hgd : Grow w0 w0.drew := (Keep.refl _ _).drew
    have hmd := hm0.grow hgd
    have hrd := hr0.grow hgd
    have hcd := hcell hgd
    have hb7 : ¬ (G0.own w.heap.size = 7) := by rw [hob]; omega
    generalize w0.drew = w1 at hgd hmd hrd hcd ⊢
    simp (maxSteps := 1000000) (disch := omega) only [↓sy1, sy2, sy3, readOK, sy5, sy6, Nat.reduceEqDiff, ↓reduceIte, sy7, sy8, sy9, sya, oneOf, syb, syc, Nat.reduceAdd, Nat.reduceMul, syd, sye, syf, syg, syh, reduceCtorEq, PL12_1, hcd, hb7]
    refine call0 (givei_ok hmd (n := x.n) (by omega)) ?_
    rintro _ w2 ⟨G2, c2, hx2, rfl, h2, hst2, _⟩
    simp (maxSteps := 1000000) (disch := omega) only [↓sy1, sy2, sy3, readOK, sy5, sy6, Nat.reduceEqDiff, ↓reduceIte, sy7, sy8, sy9, sya, oneOf, syb, syc, Nat.reduceAdd, Nat.reduceMul, syd, sye, syf, syg, syh, reduceCtorEq]
    refine ⟨hx2.keep, ?_⟩
    refine call0 (rgivei_spec (hrd.ext hx2 (by omega) (by omega)) (n := x.n)) ?_
    rintro _ w3 ⟨rfl, G3, hr3, hx3⟩
    simp (maxSteps := 1000000) (disch := omega) only [↓sy1, sy2, sy3, readOK, sy5, sy6, Nat.reduceEqDiff, ↓reduceIte, sy7, sy8, sy9, sya, oneOf, syb, syc, Nat.reduceAdd, Nat.reduceMul, syd, sye, syf, syg, syh, reduceCtorEq, decide_true]
    have hT : MapAt G3 2 7 w3 m p lq 0 c2 (x.onP P I) (x.onI I) := by rw [hP, hI]; exact (h2.ext hx3 (by omega) (by omega) (by omega))
    have hRT : RM G3 8 w3 r (x.onP P I) (x.onI I) := by rw [hP, hI]; exact hr3
    have hxT : Ext K5 G0 w0 G3 w3 := (((Ext.grow hgd).trans (hx2.mono (fun _ h => K5.seven h))).trans (hx3.mono (fun _ h => K5.eight h)))
    obtain ⟨s1, s2, s3, s4, s5⟩ : Step c c2 2 := (hst2.le (by omega))
    refine call0 (mcache_spec hT.1) ?_
    rintro _ w3 ⟨rfl, rfl⟩
    simp (maxSteps := 1000000) (disch := omega) only [↓sy1, sy2, sy3, readOK, sy5, sy6, Nat.reduceEqDiff, ↓reduceIte, sy7, sy8, sy9, sya, oneOf, syb, syc, Nat.reduceAdd, Nat.reduceMul, syd, sye, syf, syg, syh, reduceCtorEq]
    refine call0 (mcommit_ok hT (by rw [s2]; omega)) ?_
    rintro _ w9 ⟨rfl, G9, hx9, h9⟩
    obtain ⟨z1, z2, z3, z5, z4⟩ := commit_facts hT.1.cache.oks
    simp (maxSteps := 1000000) (disch := omega) only [↓sy1, sy2, sy3, readOK, sy5, sy6, Nat.reduceEqDiff, ↓reduceIte, sy7, sy8, sy9, sya, oneOf, syb, syc, Nat.reduceAdd, Nat.reduceMul, syd, sye, syf, syg, syh, reduceCtorEq, decide_true]
    exact R_out ⟨G9, c2.commit, h9, hRT.ext hx9 (by omega) (by omega), z2, by rw [z3, s4], by rw [z1, s1], by rw [z5, s3], by rw [s2] at z4; omega, ((hx0.mono (fun _ h => h.elim)).trans hxT).trans (hx9.mono (fun _ h => K5.two h))⟩
  have hP : x.onP P I = P := by unfold Deed5.onP; rw [if_neg k0, if_neg k2]
  have hI : x.onI I = I := by unfold Deed5.onI; rw [if_neg k1, if_neg k3]
  simp (maxSteps := 1000000) (disch := omega) only [↓sy1, sy2, sy3, readOK, sy5, sy6, Nat.reduceEqDiff, ↓reduceIte, sy7, sy8, sy9, sya, oneOf, syb, syc, Nat.reduceAdd, Nat.reduceMul, syd, sye, syf, syg, syh, reduceCtorEq, (hcell (Keep.refl _ _)).1, k0, k1, k2, k3, decide_false]
  have hT : MapAt G0 2 7 w0 m p lq 0 c (x.onP P I) (x.onI I) := by rw [hP, hI]; exact hm0
  have hRT : RM G0 8 w0 r (x.onP P I) (x.onI I) := by rw [hP, hI]; exact hr0
  have hxT : Ext K5 G0 w0 G0 w0 := (.refl _ _ _)
  obtain ⟨s1, s2, s3, s4, s5⟩ : Step c c 2 := ((Step.zero c).le (by omega))
  refine call0 (mcache_spec hT.1) ?_
  rintro _ w0 ⟨rfl, rfl⟩
  simp (maxSteps := 1000000) (disch := omega) only [↓sy1, sy2, sy3, readOK, sy5, sy6, Nat.reduceEqDiff, ↓reduceIte, sy7, sy8, sy9, sya, oneOf, syb, syc, Nat.reduceAdd, Nat.reduceMul, syd, sye, syf, syg, syh, reduceCtorEq]
  refine call0 (mcommit_ok hT (by rw [s2]; omega)) ?_
  rintro _ w9 ⟨rfl, G9, hx9, h9⟩
  obtain ⟨z1, z2, z3, z5, z4⟩ := commit_facts hT.1.cache.oks
  simp (maxSteps := 1000000) (disch := omega) only [↓sy1, sy2, sy3, readOK, sy5, sy6, Nat.reduceEqDiff, ↓reduceIte, sy7, sy8, sy9, sya, oneOf, syb, syc, Nat.reduceAdd, Nat.reduceMul, syd, sye, syf, syg, syh, reduceCtorEq, decide_true]
  exact R_out ⟨G9, c.commit, h9, hRT.ext hx9 (by omega) (by omega), z2, by rw [z3, s4], by rw [z1, s1], by rw [z5, s3], by rw [s2] at z4; omega, ((hx0.mono (fun _ h => h.elim)).trans hxT).trans (hx9.mono (fun _ h => K5.two h))⟩
end
end Go.Proofs.YtbnecclognibaaaGreat

/- Do both tell the same? -/
namespace Go.Proofs.YtbnecclognibaaaGreat
open Go
set_option linter.unusedSimpArgs false
open Go.RowKit (intOf)
set_option maxHeartbeats 4000000 in
theorem same5_spec {G : Gh} {κ μ m p lq came r : Nat} {w : World} {c : Csh} {P I : List Bool} (hm : MapAt G κ μ w m p lq came c P I) (hr : RM G 8 w r P I) (h8 : μ ≠ 8) (hP : P.length < 525) :
    Calls Tryz.prog 21 #[.pointer (some ⟨m, 0, none⟩), .pointer (some ⟨r, 0, none⟩)] w (Ret fun v w' => v = .bool true ∧ ∃ G', MapAt G' κ μ w' m p lq came c P I ∧ RM G' 8 w' r P I ∧ Ext (fun x => x = μ) G w G' w') := by
  have h0 : μ ≠ 0 := hm.1.cache.ne.2.1
  have hI5 := hr.i5
  apply enter21
  apply R_in
  simp (maxSteps := 1000000) (disch := omega) only [↓sy1, sy2, sy3, readOK, sy5, sy6, Nat.reduceEqDiff, ↓reduceIte, sy7, sy8, sy9, sya, oneOf, syb, syc, Nat.reduceAdd, Nat.reduceMul, syd, sye, syf, syg, syh, reduceCtorEq, F21]
  refine call0 (free_spec hm hP) ?_
  rintro _ w1 ⟨rfl, G1, hx1, h1⟩
  have hr1 := hr.ext hx1 (by omega) (by omega)
  simp (maxSteps := 1000000) (disch := omega) only [↓sy1, sy2, sy3, readOK, sy5, sy6, Nat.reduceEqDiff, ↓reduceIte, sy7, sy8, sy9, sya, oneOf, syb, syc, Nat.reduceAdd, Nat.reduceMul, syd, sye, syf, syg, syh, reduceCtorEq]
  refine call0 (rfree_spec hr1) ?_
  rintro _ w2 ⟨rfl, hg2⟩
  simp (maxSteps := 1000000) (disch := omega) only [↓sy1, sy2, sy3, readOK, sy5, sy6, Nat.reduceEqDiff, ↓reduceIte, sy7, sy8, sy9, sya, oneOf, syb, syc, Nat.reduceAdd, Nat.reduceMul, syd, sye, syf, syg, syh, reduceCtorEq]
  refine loop_rule (fun e w' => ∃ (n : Int) (G' : Gh), -1 ≤ n ∧ n ≤ 200 ∧ e 9 = .int .i64 n ∧ e 0 = .pointer (some ⟨m, 0, none⟩) ∧ e 1 = .pointer (some ⟨r, 0, none⟩) ∧ e 5 = .int .i64 (freeN P) ∧ e 6 = .int .i64 (freeN I) ∧ e 7 = .int .i64 (freeN P) ∧ e 8 = .int .i64 (freeN I) ∧ MapAt G' κ μ w' m p lq came c P I ∧ RM G' 8 w' r P I ∧ Ext (fun x => x = μ) G w G' w') (fun e _ => (201 - intOf (e 9)).toNat)
    ⟨-1, G1, by omega, by omega, by simp [upd, updO, ev], by simp [upd, updO, ev], by simp [upd, updO, ev], by simp [upd, updO, ev], by simp [upd, updO, ev], by simp [upd, updO, ev], by simp [upd, updO, ev], h1.grow hg2, hr1.grow hg2, hx1.trans (.grow hg2)⟩ ?_
  clear h1 hr1 hx1 hg2
  rintro e w3 ⟨n, G3, hn1, hn2, e9, e0, e1, e5, e6, e7, e8, h3, hr3, hx3⟩
  by_cases hgo : n ≤ (P.length : Int) ∧ n < 200
  · simp (maxSteps := 1000000) (disch := omega) only [↓sy1, sy2, sy3, readOK, sy5, sy6, Nat.reduceEqDiff, ↓reduceIte, sy7, sy8, sy9, sya, oneOf, syb, syc, Nat.reduceAdd, Nat.reduceMul, syd, sye, syf, syg, syh, reduceCtorEq, F21_L0, e9, e0, e1]
    refine call0 (rpages_spec hr3) ?_
    rintro _ w3 ⟨rfl, rfl⟩
    simp (maxSteps := 1000000) (disch := omega) only [↓sy1, sy2, sy3, readOK, sy5, sy6, Nat.reduceEqDiff, ↓reduceIte, sy7, sy8, sy9, sya, oneOf, syb, syc, Nat.reduceAdd, Nat.reduceMul, syd, sye, syf, syg, syh, reduceCtorEq, e9, e0, e1, hgo.1, hgo.2, decide_true]
    refine call0 (used_ok h3 (n := n)) ?_
    rintro _ w4 ⟨rfl, G4, hx4, h4⟩
    have hr4 := hr3.ext hx4 (by omega) (by omega)
    simp (maxSteps := 1000000) (disch := omega) only [↓sy1, sy2, sy3, readOK, sy5, sy6, Nat.reduceEqDiff, ↓reduceIte, sy7, sy8, sy9, sya, oneOf, syb, syc, Nat.reduceAdd, Nat.reduceMul, syd, sye, syf, syg, syh, reduceCtorEq, e9, e0, e1]
    refine call0 (rused_spec hr4 (n := n)) ?_
    rintro _ w4 ⟨rfl, rfl⟩
    simp (maxSteps := 1000000) (disch := omega) only [↓sy1, sy2, sy3, readOK, sy5, sy6, Nat.reduceEqDiff, ↓reduceIte, sy7, sy8, sy9, sya, oneOf, syb, syc, Nat.reduceAdd, Nat.reduceMul, syd, sye, syf, syg, syh, reduceCtorEq, e9, e0, e1, beq_self_eq_true, Bool.not_true]
    refine call0 (usedi_ok h4 (n := n)) ?_
    rintro _ w5 ⟨rfl, G5, hx5, h5⟩
    have hr5 := hr4.ext hx5 (by omega) (by omega)
    simp (maxSteps := 1000000) (disch := omega) only [↓sy1, sy2, sy3, readOK, sy5, sy6, Nat.reduceEqDiff, ↓reduceIte, sy7, sy8, sy9, sya, oneOf, syb, syc, Nat.reduceAdd, Nat.reduceMul, syd, sye, syf, syg, syh, reduceCtorEq, e9, e0, e1]
    refine call0 (rusedi_spec hr5 (n := n)) ?_
    rintro _ w5 ⟨rfl, rfl⟩
    simp (maxSteps := 1000000) (disch := omega) only [↓sy1, sy2, sy3, readOK, sy5, sy6, Nat.reduceEqDiff, ↓reduceIte, sy7, sy8, sy9, sya, oneOf, syb, syc, Nat.reduceAdd, Nat.reduceMul, syd, sye, syf, syg, syh, reduceCtorEq, e9, e0, e1, e5, e6, e7, e8, beq_self_eq_true, Bool.not_true]
    exact R_out ⟨⟨n + 1, G5, by omega, by omega, rfl, h5, hr5, (hx3.trans hx4).trans hx5⟩, by simp only [intOf]; omega⟩
  · simp (maxSteps := 1000000) (disch := omega) only [↓sy1, sy2, sy3, readOK, sy5, sy6, Nat.reduceEqDiff, ↓reduceIte, sy7, sy8, sy9, sya, oneOf, syb, syc, Nat.reduceAdd, Nat.reduceMul, syd, sye, syf, syg, syh, reduceCtorEq, F21_L0, e9, e0, e1]
    refine call0 (rpages_spec hr3) ?_
    rintro _ w3 ⟨rfl, rfl⟩
    by_cases hgo1 : n ≤ (P.length : Int)
    · have hgo2 : ¬ (n < 200) := fun hh => hgo ⟨hgo1, hh⟩
      simp (maxSteps := 1000000) (disch := omega) only [↓sy1, sy2, sy3, readOK, sy5, sy6, Nat.reduceEqDiff, ↓reduceIte, sy7, sy8, sy9, sya, oneOf, syb, syc, Nat.reduceAdd, Nat.reduceMul, syd, sye, syf, syg, syh, reduceCtorEq, e9, e0, e1, e5, e6, e7, e8, hgo1, hgo2, decide_true, decide_false]
      refine call0 (first_map_spec h3.1) ?_
      rintro _ w3 ⟨rfl, rfl⟩
      simp (maxSteps := 1000000) (disch := omega) only [↓sy1, sy2, sy3, readOK, sy5, sy6, Nat.reduceEqDiff, ↓reduceIte, sy7, sy8, sy9, sya, oneOf, syb, syc, Nat.reduceAdd, Nat.reduceMul, syd, sye, syf, syg, syh, reduceCtorEq, e1]
      refine call0 (rfirst_spec hr3) ?_
      rintro _ w3 ⟨rfl, rfl⟩
      simp (maxSteps := 1000000) (disch := omega) only [↓sy1, sy2, sy3, readOK, sy5, sy6, Nat.reduceEqDiff, ↓reduceIte, sy7, sy8, sy9, sya, oneOf, syb, syc, Nat.reduceAdd, Nat.reduceMul, syd, sye, syf, syg, syh, reduceCtorEq, e0, decide_true]
      refine call0 (inodes_spec h3.1) ?_
      rintro _ w3 ⟨rfl, rfl⟩
      simp (maxSteps := 1000000) (disch := omega) only [↓sy1, sy2, sy3, readOK, sy5, sy6, Nat.reduceEqDiff, ↓reduceIte, sy7, sy8, sy9, sya, oneOf, syb, syc, Nat.reduceAdd, Nat.reduceMul, syd, sye, syf, syg, syh, reduceCtorEq, e1]
      refine call0 (rinodes_spec hr3) ?_
      rintro _ w3 ⟨rfl, rfl⟩
      simp (maxSteps := 1000000) (disch := omega) only [↓sy1, sy2, sy3, readOK, sy5, sy6, Nat.reduceEqDiff, ↓reduceIte, sy7, sy8, sy9, sya, oneOf, syb, syc, Nat.reduceAdd, Nat.reduceMul, syd, sye, syf, syg, syh, reduceCtorEq, decide_true]
      exact R_out ⟨G3, h3, hr3, hx3⟩
    · simp (maxSteps := 1000000) (disch := omega) only [↓sy1, sy2, sy3, readOK, sy5, sy6, Nat.reduceEqDiff, ↓reduceIte, sy7, sy8, sy9, sya, oneOf, syb, syc, Nat.reduceAdd, Nat.reduceMul, syd, sye, syf, syg, syh, reduceCtorEq, e9, e0, e1, e5, e6, e7, e8, hgo1, decide_true, decide_false]
      refine call0 (first_map_spec h3.1) ?_
      rintro _ w3 ⟨rfl, rfl⟩
      simp (maxSteps := 1000000) (disch := omega) only [↓sy1, sy2, sy3, readOK, sy5, sy6, Nat.reduceEqDiff, ↓reduceIte, sy7, sy8, sy9, sya, oneOf, syb, syc, Nat.reduceAdd, Nat.reduceMul, syd, sye, syf, syg, syh, reduceCtorEq, e1]
      refine call0 (rfirst_spec hr3) ?_
      rintro _ w3 ⟨rfl, rfl⟩
      simp (maxSteps := 1000000) (disch := omega) only [↓sy1, sy2, sy3, readOK, sy5, sy6, Nat.reduceEqDiff, ↓reduceIte, sy7, sy8, sy9, sya, oneOf, syb, syc, Nat.reduceAdd, Nat.reduceMul, syd, sye, syf, syg, syh, reduceCtorEq, e0, decide_true]
      refine call0 (inodes_spec h3.1) ?_
      rintro _ w3 ⟨rfl, rfl⟩
      simp (maxSteps := 1000000) (disch := omega) only [↓sy1, sy2, sy3, readOK, sy5, sy6, Nat.reduceEqDiff, ↓reduceIte, sy7, sy8, sy9, sya, oneOf, syb, syc, Nat.reduceAdd, Nat.reduceMul, syd, sye, syf, syg, syh, reduceCtorEq, e1]
      refine call0 (rinodes_spec hr3) ?_
      rintro _ w3 ⟨rfl, rfl⟩
      simp (maxSteps := 1000000) (disch := omega) only [↓sy1, sy2, sy3, readOK, sy5, sy6, Nat.reduceEqDiff, ↓reduceIte, sy7, sy8, sy9, sya, oneOf, syb, syc, Nat.reduceAdd, Nat.reduceMul, syd, sye, syf, syg, syh, reduceCtorEq, decide_true]
      exact R_out ⟨G3, h3, hr3, hx3⟩
/-- A row of deeds. -/
def Deed5.cells (x : Deed5) : List Value := [.int .i64 x.kind, .int .i64 x.n]
def HasD5 (w : World) (v : Value) (l : List Deed5) : Prop := Has 2 w v (l.flatMap Deed5.cells)
theorem deeds5_length (l : List Deed5) : (l.flatMap Deed5.cells).length = l.length * 2 := by
  induction l with
  | nil => rfl
  | cons x l ih => rw [List.flatMap_cons, List.length_append, ih, List.length_cons]; simp [Deed5.cells]; omega
theorem deeds5_get {l : List Deed5} {i : Nat} (hi : i < l.length) : (l.flatMap Deed5.cells)[i * 2 + 0]? = some (.int .i64 l[i].kind) ∧ (l.flatMap Deed5.cells)[i * 2 + 1]? = some (.int .i64 l[i].n) := by
  induction l generalizing i with
  | nil => simp at hi
  | cons x l ih =>
    rw [List.flatMap_cons]
    match i, hi with
    | 0, _ => exact ⟨rfl, rfl⟩
    | i + 1, hi =>
      have h2 : x.cells.length = 2 := rfl
      have := ih (i := i) (by simpa using hi)
      rw [List.getElem?_append_right (by omega), List.getElem?_append_right (by omega), h2, show (i + 1) * 2 + 0 - 2 = i * 2 + 0 from by omega, show (i + 1) * 2 + 1 - 2 = i * 2 + 1 from by omega]
      simpa using this
theorem HasD5.lenD {w : World} {v : Value} {l : List Deed5} (h : HasD5 w v l) (w2 : World) : lenF w2 0 v = some (.int .i64 l.length) := by
  rw [Has.lenk h (by omega), deeds5_length, Nat.mul_div_cancel _ (by omega)]
theorem HasD5.at {w : World} {v : Value} {l : List Deed5} (h : HasD5 w v l) {i : Nat} (hi : i < l.length) :
    ∃ b o, iaF 2 v (.int .i64 i) = some (.pointer (some ⟨b, o, none⟩)) ∧ loadN w ⟨b, o, none⟩ 0 2 = some [.int .i64 l[i].kind, .int .i64 l[i].n] ∧ w.cell? ⟨b, o, none⟩ = some (.int .i64 l[i].kind) ∧ w.cell? ⟨b, o + 1, none⟩ = some (.int .i64 l[i].n) := by
  obtain ⟨b, o, h5, h6, _⟩ := Has.idxk h (i := i) (by rw [deeds5_length, Nat.mul_div_cancel _ (by omega)]; exact hi)
  obtain ⟨g0, g1⟩ := deeds5_get hi
  obtain ⟨x, hx, hxc⟩ := h6 0 (by omega)
  obtain ⟨y, hy, hyc⟩ := h6 1 (by omega)
  rw [g0] at hx
  rw [g1] at hy
  cases hx; cases hy
  exact ⟨b, o, h5, loadN2 hxc hyc, hxc, hyc⟩
/-- Both maps, as the laws play on them. -/
structure On5 (G : Gh) (w : World) (m p lq r : Nat) (c : Csh) (P I : List Bool) (N size k : Nat) : Prop where
  mm : MapAt G 2 7 w m p lq 0 c P I
  rr : RM G 8 w r P I
  dd : c.dirty = []
  cc : c.cap = min size 100
  sz : c.size = size
  nn : c.N = N
  kk : I.length = k
theorem On5.pl {G : Gh} {w : World} {m p lq r : Nat} {c : Csh} {P I : List Bool} {N size k : Nat} (h : On5 G w m p lq r c P I N size k) : P.length = N := by rw [h.mm.2.plen, h.nn]
theorem On5.step {G : Gh} {w : World} {m p lq r : Nat} {c : Csh} {P I : List Bool} {N size k : Nat} (h : On5 G w m p lq r c P I N size k) (h3 : 3 ≤ size) (ho : c.D.ops.length < 600000) (x : Deed5) :
    Calls Tryz.prog 12 #[.pointer (some ⟨m, 0, none⟩), .pointer (some ⟨r, 0, none⟩), x.val] w (Ret fun v w' => v = .bool true ∧ ∃ G' c' P' I', On5 G' w' m p lq r c' P' I' N size k ∧ c'.D.ops.length ≤ c.D.ops.length + 206 ∧ Ext K5 G w G' w') := by
  refine Ret.mono (do5_spec h.mm h.rr (by rw [h.cc, h.dd]; simp; omega) ho x) fun _ _ ⟨h1, G', c', h2, h4, h5, h6, h7, h8, h9, h10⟩ => ⟨h1, G', c', _, _, ⟨h2, h4, h5, by rw [h6, h.cc], by rw [h8, h.sz], by rw [h7, h.nn], ?_⟩, h9, h10⟩
  unfold Deed5.onI
  split
  · rw [takeL_length]; exact h.kk
  · split
    · rw [giveL_length]; exact h.kk
    · exact h.kk
end Go.Proofs.YtbnecclognibaaaGreat

/- AllocFirst: the walk. -/
namespace Go.Proofs.YtbnecclognibaaaGreat
open Go
set_option linter.unusedSimpArgs false
open Go.RowKit (intOf)
theorem usedC_at {l : List Bool} {i : Nat} (h : i < l.length) : usedC l i = l[i] := by
  unfold usedC
  rw [decide_eq_true (by omega), Bool.true_and, show ((i : Int)).toNat = i from rfl, List.getD_eq_getElem?_getD, List.getElem?_eq_getElem h]; rfl
/-- The cache, both maps: a start of three laws. -/
theorem start5 {w w1 : World} {p lq : Nat} {G1 : Gh} {pages size k : Nat} (hc1 : CacheS G1 2 7 w1 p lq 0 (ac pages size)) (hx1 : Ext0 G00 w G1 w1) (hk : mayA pages k) (hr : 3 + k / 8 ≤ min size 100) :
    Calls Tryz.prog 8 #[.pointer (some ⟨p, 0, none⟩), .int .i64 k] w1 (Ret fun v w' => ∃ m G' c', v = .tuple #[.pointer (some ⟨m, 0, none⟩), .int .i64 0] ∧ MapAt G' 2 7 w' m p lq 0 c' (upto1 (3 + k / 8) pages) (upto1 1 k) ∧ c'.D.ops.length = 0 ∧ c'.cap = min size 100 ∧ c'.size = size ∧ c'.N = pages ∧ Ext K5 G00 w G' w') := by
  have hN := ac_N pages size
  have hd := ac_dirty pages size
  have hcap := ac_cap pages size
  refine Ret.mono (make_ok hc1 (by omega) (k := k) (by rw [hN]; exact hk) (by rw [hd, hcap]; simpa using hr)) fun _ _ ⟨m, G2, c1, h1, _, h2, ⟨n1, n2, n3, n4, n5⟩, hx2⟩ => ⟨m, G2, c1, h1, ?_, by rw [n2]; rfl, by rw [n4, hcap], by rw [n3]; rfl, by rw [n1, hN], (hx1.mono (fun _ h => h.elim)).trans (hx2.mono (fun _ h => K5.seven h))⟩
  rw [hN] at h2; exact h2
set_option maxHeartbeats 8000000 in
theorem allocFirst_walk {w : World} {lv : Value} {l : List Deed5} (hv : HasD5 w lv l) :
    Calls Tryz.prog 3 #[lv] w (Ret fun v w' => v = .bool true ∧ Grow w w') := by
  apply enter3
  apply R_in
  simp (maxSteps := 1000000) (disch := omega) only [↓sy1, sy2, sy3, readOK, sy5, sy6, Nat.reduceEqDiff, ↓reduceIte, sy7, sy8, sy9, sya, oneOf, syb, syc, Nat.reduceAdd, Nat.reduceMul, syd, sye, syf, syg, syh, reduceCtorEq, F3]
  refine call0 (cached_spec G00 (pages := 60) (size := 50) 2 7 (by omega) (by omega) (by omega) (by omega) (by omega) (by omega)) ?_
  rintro _ w1 ⟨p, lq, G1, rfl, hp1, hc1, hx1⟩
  simp (maxSteps := 1000000) (disch := omega) only [↓sy1, sy2, sy3, readOK, sy5, sy6, Nat.reduceEqDiff, ↓reduceIte, sy7, sy8, sy9, sya, oneOf, syb, syc, Nat.reduceAdd, Nat.reduceMul, syd, sye, syf, syg, syh, reduceCtorEq]
  refine call0 (start5 (k := 16) hc1 hx1 (by unfold mayA; omega) (by omega)) ?_
  rintro _ w2 ⟨m, G2, c1, rfl, h2, hops, hcap, hsz, hN, hx2⟩
  simp (maxSteps := 1000000) (disch := omega) only [↓sy1, sy2, sy3, readOK, sy5, sy6, Nat.reduceEqDiff, ↓reduceIte, sy7, sy8, sy9, sya, oneOf, syb, syc, Nat.reduceAdd, Nat.reduceMul, syd, sye, syf, syg, syh, reduceCtorEq]
  refine call0 (rmake_spec (N := 60) (k := 16) G2 8 (by omega) (by unfold mayA; omega)) ?_
  rintro _ w3 ⟨r, G3, rfl, hr3, hx3⟩
  simp (maxSteps := 1000000) (disch := omega) only [↓sy1, sy2, sy3, readOK, sy5, sy6, Nat.reduceEqDiff, ↓reduceIte, sy7, sy8, sy9, sya, oneOf, syb, syc, Nat.reduceAdd, Nat.reduceMul, syd, sye, syf, syg, syh, reduceCtorEq]
  refine call0 (live5_spec _) ?_
  rintro _ w4 ⟨rfl, hg4⟩
  simp (maxSteps := 1000000) (disch := omega) only [↓sy1, sy2, sy3, readOK, sy5, sy6, Nat.reduceEqDiff, ↓reduceIte, sy7, sy8, sy9, sya, oneOf, syb, syc, Nat.reduceAdd, Nat.reduceMul, syd, sye, syf, syg, syh, reduceCtorEq, Bool.not_true, decide_true]
  refine call0 (mcommit_ok ((h2.ext hx3 id id id).grow hg4) (by omega)) ?_
  rintro _ w5 ⟨rfl, G5, hx5, h5⟩
  obtain ⟨m1, m2, m3, m5, m4⟩ := commit_facts h2.1.cache.oks
  have hOn : On5 G5 w5 m p lq r c1.commit (upto1 (3 + 16 / 8) 60) (upto1 1 16) 60 50 16 := ⟨h5, (hr3.grow hg4).ext hx5 (by omega) (by omega), m2, by rw [m3, hcap], by rw [m5, hsz], by rw [m1, hN], upto1_length _ _⟩
  have hx05 : Ext K5 G00 w G5 w5 := ((hx2.trans (hx3.mono (fun _ h => h.elim))).trans (.grow hg4)).trans (hx5.mono (fun _ h => K5.two h))
  have hops5 : c1.commit.D.ops.length ≤ 206 := by omega
  generalize c1.commit = c2 at hOn hops5
  generalize upto1 (3 + 16 / 8) 60 = P0 at hOn
  generalize upto1 1 16 = I0 at hOn
  clear h2 hx2 hr3 hx3 hg4 h5 hx5 m1 m2 m3 m4 m5 hc1 hx1 hops hcap hsz hN
  have hlenL : ∀ w', lenF w' 0 lv = some (.int .i64 l.length) := fun w' => hv.lenD w'
  simp (maxSteps := 1000000) (disch := omega) only [↓sy1, sy2, sy3, readOK, sy5, sy6, Nat.reduceEqDiff, ↓reduceIte, sy7, sy8, sy9, sya, oneOf, syb, syc, Nat.reduceAdd, Nat.reduceMul, syd, sye, syf, syg, syh, reduceCtorEq, decide_true]
  refine loop_rule (fun e w' => ∃ (i : Nat) (G' : Gh) (c' : Csh) (P I : List Bool), i ≤ l.length ∧ i ≤ 30 ∧ e 8 = .int .i64 i ∧ e 0 = lv ∧ e 4 = .pointer (some ⟨m, 0, none⟩) ∧ e 6 = .pointer (some ⟨r, 0, none⟩) ∧ On5 G' w' m p lq r c' P I 60 50 16 ∧ c'.D.ops.length ≤ 206 + 206 * i ∧ Ext K5 G00 w G' w') (fun e _ => 30 - (intOf (e 8)).toNat)
    ⟨0, G5, c2, P0, I0, by omega, by omega, by simp [upd, updO, ev], by simp [upd, updO, ev], by simp [upd, updO, ev], by simp [upd, updO, ev], hOn, by omega, hx05⟩ ?_
  clear hOn hx05 hops5
  rintro e w6 ⟨i, G6, c3, P, I, hi, hi3, e8, e0, e4, e6, hOn, hops, hx6⟩
  by_cases hgo : i < l.length ∧ i < 30
  · obtain ⟨hgo1, hgo2⟩ := hgo
    obtain ⟨b, o, ha, hld, _⟩ := HasD5.at (Has.grow hv (hx6.toGrow (by unfold K5; omega))) hgo1
    simp (maxSteps := 1000000) (disch := omega) only [↓sy1, sy2, sy3, readOK, sy5, sy6, Nat.reduceEqDiff, ↓reduceIte, sy7, sy8, sy9, sya, oneOf, syb, syc, Nat.reduceAdd, Nat.reduceMul, syd, sye, syf, syg, syh, reduceCtorEq, F3_L0, e8, e0, e4, e6, hlenL, Int.ofNat_lt, hgo1, show ((i : Int) < 30) from by omega, decide_true, ha, hld]
    refine call0 (hOn.step (by omega) (by omega) l[i]) ?_
    rintro _ w7 ⟨rfl, G7, c4, P7, I7, hOn7, hops7, hx7⟩
    simp (maxSteps := 1000000) (disch := omega) only [↓sy1, sy2, sy3, readOK, sy5, sy6, Nat.reduceEqDiff, ↓reduceIte, sy7, sy8, sy9, sya, oneOf, syb, syc, Nat.reduceAdd, Nat.reduceMul, syd, sye, syf, syg, syh, reduceCtorEq, e8, e0, e4, e6]
    exact R_out ⟨⟨i + 1, G7, c4, P7, I7, by omega, by omega, rfl, hOn7, by omega, hx6.trans hx7⟩, by simp only [intOf]; omega⟩
  have hP60 := hOn.pl
  have hI16 := hOn.kk
  obtain ⟨hm, hr, hd, hcap, hsz, hN, _⟩ := hOn
  have hA := hm.2
  have hfirst := hA.first
  have hd0 : c3.dirty.length = 0 := by rw [hd]; rfl
  have hcap : c3.cap = 50 := hcap
  have huse : ∀ (L : List Bool) (n : Nat) (b : Bool), L[n]? = some b → usedC L (n : Int) = b := fun L n b hb => by
    have hlt := (List.getElem?_eq_some_iff.1 hb).1
    unfold usedC
    rw [decide_eq_true (by omega), Bool.true_and, show ((n : Int)).toNat = n from rfl, List.getD_eq_getElem?_getD, hb]; rfl
  have hcs : ∀ (L : List Bool) (n N : Nat), L.length = N → n ≤ N → (n < N ∧ L[n]? = some true) ∨ (n < N ∧ L[n]? = some false) ∨ n = N := fun L n N hL hn => by
    rcases Nat.lt_or_ge n N with h | h
    · have hg : L[n]? = some (L[n]'(by omega)) := List.getElem?_eq_getElem (by omega)
      cases hb : L[n]'(by omega) with
      | true => exact .inl ⟨h, by rw [hg, hb]⟩
      | false => exact .inr (.inl ⟨h, by rw [hg, hb]⟩)
    · exact .inr (.inr (by omega))
  have hcnd : (i < l.length ∧ ¬ ((i : Int) < 30)) ∨ ¬ (i < l.length) := by omega
  clear hgo
  rcases hcnd with ⟨hg1, hg2⟩ | hg1
  all_goals first
    | (
      simp (maxSteps := 1000000) (disch := omega) only [↓sy1, sy2, sy3, readOK, sy5, sy6, Nat.reduceEqDiff, ↓reduceIte, sy7, sy8, sy9, sya, oneOf, syb, syc, Nat.reduceAdd, Nat.reduceMul, syd, sye, syf, syg, syh, reduceCtorEq, F3_L0, e8, e0, e4, e6, hlenL, Int.ofNat_lt, hg1, hg2, decide_true, decide_false]
      refine call0 (first_map_spec hm.1) ?_)
    | (
      simp (maxSteps := 1000000) (disch := omega) only [↓sy1, sy2, sy3, readOK, sy5, sy6, Nat.reduceEqDiff, ↓reduceIte, sy7, sy8, sy9, sya, oneOf, syb, syc, Nat.reduceAdd, Nat.reduceMul, syd, sye, syf, syg, syh, reduceCtorEq, F3_L0, e8, e0, e4, e6, hlenL, Int.ofNat_lt, hg1, decide_true, decide_false]
      refine call0 (first_map_spec hm.1) ?_)
  all_goals
    rintro _ w6 ⟨rfl, rfl⟩
    rw [hI16, show ((3 + 16 / 8 : Nat) : Int) = ((5 : Nat) : Int) from rfl]
    simp (maxSteps := 1000000) (disch := omega) only [↓sy1, sy2, sy3, readOK, sy5, sy6, Nat.reduceEqDiff, ↓reduceIte, sy7, sy8, sy9, sya, oneOf, syb, syc, Nat.reduceAdd, Nat.reduceMul, syd, sye, syf, syg, syh, reduceCtorEq, e4]
    refine loop_rule (fun e w' => ∃ (n : Nat) (G' : Gh), 5 ≤ n ∧ n ≤ 60 ∧ e 9 = .int .i64 n ∧ e 10 = .int .i64 1 ∧ e 4 = .pointer (some ⟨m, 0, none⟩) ∧ (∀ j < n, P[j]? = some true) ∧ MapAt G' 2 7 w' m p lq 0 c3 P I ∧ Ext K5 G00 w G' w') (fun e _ => 60 - (intOf (e 9)).toNat)
      ⟨5, G6, by omega, by omega, by simp [upd, updO, ev], by simp [upd, updO, ev], by simp [upd, updO, ev, e4], fun j hj => hA.resv j (by omega), hm, hx6⟩ ?_
    clear e8 e0 e4 e6
    rintro e w7 ⟨n, G7, hn5, hn60, e9, e10, e4, hall, h7, hx7⟩
    rcases hcs P n 60 hP60 hn60 with ⟨hlt, hb⟩ | ⟨hlt, hb⟩ | hlt
    · simp (maxSteps := 1000000) (disch := omega) only [↓sy1, sy2, sy3, readOK, sy5, sy6, Nat.reduceEqDiff, ↓reduceIte, sy7, sy8, sy9, sya, oneOf, syb, syc, Nat.reduceAdd, Nat.reduceMul, syd, sye, syf, syg, syh, reduceCtorEq, F3_L1, e9, e10, e4, show ((n : Int) < 60) from by omega, decide_true]
      refine call0 (used_ok h7 (n := n)) ?_
      rintro _ w8 ⟨rfl, G8, hx8, h8⟩
      rw [huse P n true hb]
      simp (maxSteps := 1000000) (disch := omega) only [↓sy1, sy2, sy3, readOK, sy5, sy6, Nat.reduceEqDiff, ↓reduceIte, sy7, sy8, sy9, sya, oneOf, syb, syc, Nat.reduceAdd, Nat.reduceMul, syd, sye, syf, syg, syh, reduceCtorEq, e9, e10, e4]
      refine R_out ⟨⟨n + 1, G8, by omega, by omega, rfl, fun j hj => ?_, h8, hx7.trans (hx8.mono (fun _ h => K5.seven h))⟩, by simp only [intOf]; omega⟩
      by_cases hjn : j < n
      · exact hall j hjn
      · rw [show j = n by omega]; exact hb
  all_goals first
    | (
      have hfn : firstN P = n := firstN_eq hall hb
      simp (maxSteps := 1000000) (disch := omega) only [↓sy1, sy2, sy3, readOK, sy5, sy6, Nat.reduceEqDiff, ↓reduceIte, sy7, sy8, sy9, sya, oneOf, syb, syc, Nat.reduceAdd, Nat.reduceMul, syd, sye, syf, syg, syh, reduceCtorEq, F3_L1, e9, e10, e4, show ((n : Int) < 60) from by omega, decide_true]
      refine call0 (used_ok h7 (n := n)) ?_
      rintro _ w8 ⟨rfl, G8, hx8, h8⟩
      have hx8 := hx7.trans (hx8.mono (fun _ h => K5.seven h))
      rw [huse P n false hb]
      simp (maxSteps := 1000000) (disch := omega) only [↓sy1, sy2, sy3, readOK, sy5, sy6, Nat.reduceEqDiff, ↓reduceIte, sy7, sy8, sy9, sya, oneOf, syb, syc, Nat.reduceAdd, Nat.reduceMul, syd, sye, syf, syg, syh, reduceCtorEq, e9, e10, e4])
    | (
      have hfn : firstN P = n := by rw [firstN_none (fun j hj => hall j (by omega))]; omega
      have h8 := h7
      have hx8 := hx7
      simp (maxSteps := 1000000) (disch := omega) only [↓sy1, sy2, sy3, readOK, sy5, sy6, Nat.reduceEqDiff, ↓reduceIte, sy7, sy8, sy9, sya, oneOf, syb, syc, Nat.reduceAdd, Nat.reduceMul, syd, sye, syf, syg, syh, reduceCtorEq, F3_L1, e9, e10, e4, show ¬ ((n : Int) < 60) from by omega, decide_false])
  all_goals
    clear h7 hx7
    refine loop_rule (fun e w' => ∃ (z : Nat) (G' : Gh), 1 ≤ z ∧ z ≤ 16 ∧ e 10 = .int .i64 z ∧ e 9 = .int .i64 n ∧ e 4 = .pointer (some ⟨m, 0, none⟩) ∧ (∀ j < z, I[j]? = some true) ∧ MapAt G' 2 7 w' m p lq 0 c3 P I ∧ Ext K5 G00 w G' w') (fun e _ => 16 - (intOf (e 10)).toNat)
      ⟨1, _, by omega, by omega, by simp [upd, updO, ev, e10], by simp [upd, updO, ev, e9], by simp [upd, updO, ev, e4], fun j hj => by rw [show j = 0 by omega]; exact hA.root, h8, hx8⟩ ?_
    clear e4 e9 e10 h8 hx8
    rintro e w9 ⟨z, G9, hz1, hz16, e10, e9, e4, halz, h9, hx9⟩
    rcases hcs I z 16 hI16 hz16 with ⟨hlz, hb⟩ | ⟨hlz, hb⟩ | hlz
    · simp (maxSteps := 1000000) (disch := omega) only [↓sy1, sy2, sy3, readOK, sy5, sy6, Nat.reduceEqDiff, ↓reduceIte, sy7, sy8, sy9, sya, oneOf, syb, syc, Nat.reduceAdd, Nat.reduceMul, syd, sye, syf, syg, syh, reduceCtorEq, F3_L2, e9, e10, e4, show ((z : Int) < 16) from by omega, decide_true]
      refine call0 (usedi_ok h9 (n := z)) ?_
      rintro _ w10 ⟨rfl, G10, hx10, h10⟩
      rw [huse I z true hb]
      simp (maxSteps := 1000000) (disch := omega) only [↓sy1, sy2, sy3, readOK, sy5, sy6, Nat.reduceEqDiff, ↓reduceIte, sy7, sy8, sy9, sya, oneOf, syb, syc, Nat.reduceAdd, Nat.reduceMul, syd, sye, syf, syg, syh, reduceCtorEq, e9, e10, e4]
      refine R_out ⟨⟨z + 1, G10, by omega, by omega, rfl, fun j hj => ?_, h10, hx9.trans (hx10.mono (fun _ h => K5.seven h))⟩, by simp only [intOf]; omega⟩
      by_cases hjn : j < z
      · exact halz j hjn
      · rw [show j = z by omega]; exact hb
  all_goals first
    | (
      have hfz : firstN I = z := firstN_eq halz hb
      simp (maxSteps := 1000000) (disch := omega) only [↓sy1, sy2, sy3, readOK, sy5, sy6, Nat.reduceEqDiff, ↓reduceIte, sy7, sy8, sy9, sya, oneOf, syb, syc, Nat.reduceAdd, Nat.reduceMul, syd, sye, syf, syg, syh, reduceCtorEq, F3_L2, e9, e10, e4, show ((z : Int) < 16) from by omega, decide_true]
      refine call0 (usedi_ok h9 (n := z)) ?_
      rintro _ w10 ⟨rfl, G10, hx10, h10⟩
      have hx10 := hx9.trans (hx10.mono (fun _ h => K5.seven h))
      rw [huse I z false hb]
      simp (maxSteps := 1000000) (disch := omega) only [↓sy1, sy2, sy3, readOK, sy5, sy6, Nat.reduceEqDiff, ↓reduceIte, sy7, sy8, sy9, sya, oneOf, syb, syc, Nat.reduceAdd, Nat.reduceMul, syd, sye, syf, syg, syh, reduceCtorEq, e9, e10, e4])
    | (
      have hfz : firstN I = z := by rw [firstN_none (fun j hj => halz j (by omega))]; omega
      have h10 := h9
      have hx10 := hx9
      simp (maxSteps := 1000000) (disch := omega) only [↓sy1, sy2, sy3, readOK, sy5, sy6, Nat.reduceEqDiff, ↓reduceIte, sy7, sy8, sy9, sya, oneOf, syb, syc, Nat.reduceAdd, Nat.reduceMul, syd, sye, syf, syg, syh, reduceCtorEq, F3_L2, e9, e10, e4, show ¬ ((z : Int) < 16) from by omega, decide_false])
  all_goals
    clear h9 hx9
    refine call0 (page_tk h10 (by omega)) ?_
    rintro _ w11 ⟨G11, c4, hx11, rfl, h11, t1, t2, t3, t4, t5⟩
    simp (maxSteps := 1000000) (disch := omega) only [↓sy1, sy2, sy3, readOK, sy5, sy6, Nat.reduceEqDiff, ↓reduceIte, sy7, sy8, sy9, sya, oneOf, syb, syc, Nat.reduceAdd, Nat.reduceMul, syd, sye, syf, syg, syh, reduceCtorEq, e9, e10, e4]
    refine call0 (inode_tk h11 (by omega)) ?_
    rintro _ w12 ⟨G12, c5, hx12, rfl, h12, _⟩
    have hgz : Grow w w12 := ((hx10.trans (hx11.mono (fun _ h => K5.seven h))).trans (hx12.mono (fun _ h => K5.seven h))).toGrow (by unfold K5; omega)
    have htN : takeN P = if n < 60 then n else 0 := by rw [takeN, hfn, hP60]
    have htC : takeC P = if n < 60 then 0 else 7 := by rw [takeC, hfn, hP60]
    have hiN : takeN I = if z < 16 then z else 0 := by rw [takeN, hfz, hI16]
    have hiC : takeC I = if z < 16 then 0 else 7 := by rw [takeC, hfz, hI16]
    rw [htN, htC, hiN, hiC]
    by_cases c60 : n < 60
    · by_cases c16 : z < 16
      · rw [if_pos c60, if_pos c60, if_pos c16, if_pos c16]
        simp (maxSteps := 1000000) (disch := omega) only [↓sy1, sy2, sy3, readOK, sy5, sy6, Nat.reduceEqDiff, ↓reduceIte, sy7, sy8, sy9, sya, oneOf, syb, syc, Nat.reduceAdd, Nat.reduceMul, syd, sye, syf, syg, syh, reduceCtorEq, e9, e10, show ¬ ((n : Int) = 60) from by omega, show ¬ ((z : Int) = 16) from by omega, decide_true, decide_false]
        exact R_out hgz
      · rw [if_pos c60, if_pos c60, if_neg c16, if_neg c16]
        simp (maxSteps := 1000000) (disch := omega) only [↓sy1, sy2, sy3, readOK, sy5, sy6, Nat.reduceEqDiff, ↓reduceIte, sy7, sy8, sy9, sya, oneOf, syb, syc, Nat.reduceAdd, Nat.reduceMul, syd, sye, syf, syg, syh, reduceCtorEq, e9, e10, show ¬ ((n : Int) = 60) from by omega, show ((z : Int) = 16) from by omega, decide_true, decide_false]
        exact R_out hgz
    · by_cases c16 : z < 16
      · rw [if_neg c60, if_neg c60, if_pos c16, if_pos c16]
        simp (maxSteps := 1000000) (disch := omega) only [↓sy1, sy2, sy3, readOK, sy5, sy6, Nat.reduceEqDiff, ↓reduceIte, sy7, sy8, sy9, sya, oneOf, syb, syc, Nat.reduceAdd, Nat.reduceMul, syd, sye, syf, syg, syh, reduceCtorEq, e9, e10, show ((n : Int) = 60) from by omega, show ¬ ((z : Int) = 16) from by omega, decide_true, decide_false]
        exact R_out hgz
      · rw [if_neg c60, if_neg c60, if_neg c16, if_neg c16]
        simp (maxSteps := 1000000) (disch := omega) only [↓sy1, sy2, sy3, readOK, sy5, sy6, Nat.reduceEqDiff, ↓reduceIte, sy7, sy8, sy9, sya, oneOf, syb, syc, Nat.reduceAdd, Nat.reduceMul, syd, sye, syf, syg, syh, reduceCtorEq, e9, e10, show ((n : Int) = 60) from by omega, show ((z : Int) = 16) from by omega, decide_true, decide_false]
        exact R_out hgz
end Go.Proofs.YtbnecclognibaaaGreat

/- AllocAborts: the walk. -/
namespace Go.Proofs.YtbnecclognibaaaGreat
open Go
set_option linter.unusedSimpArgs false
open Go.RowKit (intOf)
theorem clean_none {c : Csh} (h : c.dirty = []) {n : Nat} (hn : n < c.N) : c.q n = none := by
  cases hq : c.q n with
  | none => rfl
  | some b =>
    have := (mem_dirty (c := c) hn).2 (by rw [hq]; simp)
    rw [h] at this; simp at this
theorem Alc.aborted {c c' : Csh} {P I : List Bool} {d : Nat} (h : Alc c P I) (hd : c.dirty = []) (hst : Step c c' d) : Alc c'.abort P I := by
  have hm := h.may
  unfold mayA at hm
  obtain ⟨s1, s2, s3, _⟩ := hst
  refine h.congr s1 fun n hn => ?_
  have hq := clean_none hd (n := n) (by omega)
  simp only [Csh.page, Csh.abort, hq, s2, s3, Option.getD_none]
set_option maxHeartbeats 8000000 in
theorem allocAborts_walk {w : World} {lv mv : Value} {l ml : List Deed5} (hv : HasD5 w lv l) (hmv : HasD5 w mv ml) :
    Calls Tryz.prog 4 #[lv, mv] w (Ret fun v w' => v = .bool true ∧ Grow w w') := by
  apply enter4
  apply R_in
  simp (maxSteps := 1000000) (disch := omega) only [↓sy1, sy2, sy3, readOK, sy5, sy6, Nat.reduceEqDiff, ↓reduceIte, sy7, sy8, sy9, sya, oneOf, syb, syc, Nat.reduceAdd, Nat.reduceMul, syd, sye, syf, syg, syh, reduceCtorEq, F4]
  refine call0 (cached_spec G00 (pages := 60) (size := 50) 2 7 (by omega) (by omega) (by omega) (by omega) (by omega) (by omega)) ?_
  rintro _ w1 ⟨p, lq, G1, rfl, hp1, hc1, hx1⟩
  simp (maxSteps := 1000000) (disch := omega) only [↓sy1, sy2, sy3, readOK, sy5, sy6, Nat.reduceEqDiff, ↓reduceIte, sy7, sy8, sy9, sya, oneOf, syb, syc, Nat.reduceAdd, Nat.reduceMul, syd, sye, syf, syg, syh, reduceCtorEq]
  refine call0 (start5 (k := 16) hc1 hx1 (by unfold mayA; omega) (by omega)) ?_
  rintro _ w2 ⟨m, G2, c1, rfl, h2, hops, hcap, hsz, hN, hx2⟩
  simp (maxSteps := 1000000) (disch := omega) only [↓sy1, sy2, sy3, readOK, sy5, sy6, Nat.reduceEqDiff, ↓reduceIte, sy7, sy8, sy9, sya, oneOf, syb, syc, Nat.reduceAdd, Nat.reduceMul, syd, sye, syf, syg, syh, reduceCtorEq]
  refine call0 (rmake_spec (N := 60) (k := 16) G2 8 (by omega) (by unfold mayA; omega)) ?_
  rintro _ w3 ⟨r, G3, rfl, hr3, hx3⟩
  simp (maxSteps := 1000000) (disch := omega) only [↓sy1, sy2, sy3, readOK, sy5, sy6, Nat.reduceEqDiff, ↓reduceIte, sy7, sy8, sy9, sya, oneOf, syb, syc, Nat.reduceAdd, Nat.reduceMul, syd, sye, syf, syg, syh, reduceCtorEq]
  refine call0 (live5_spec _) ?_
  rintro _ w4 ⟨rfl, hg4⟩
  simp (maxSteps := 1000000) (disch := omega) only [↓sy1, sy2, sy3, readOK, sy5, sy6, Nat.reduceEqDiff, ↓reduceIte, sy7, sy8, sy9, sya, oneOf, syb, syc, Nat.reduceAdd, Nat.reduceMul, syd, sye, syf, syg, syh, reduceCtorEq, Bool.not_true, decide_true]
  refine call0 (mcommit_ok ((h2.ext hx3 id id id).grow hg4) (by omega)) ?_
  rintro _ w5 ⟨rfl, G5, hx5, h5⟩
  obtain ⟨m1, m2, m3, m5, m4⟩ := commit_facts h2.1.cache.oks
  have hOn : On5 G5 w5 m p lq r c1.commit (upto1 (3 + 16 / 8) 60) (upto1 1 16) 60 50 16 := ⟨h5, (hr3.grow hg4).ext hx5 (by omega) (by omega), m2, by rw [m3, hcap], by rw [m5, hsz], by rw [m1, hN], upto1_length _ _⟩
  have hx05 : Ext K5 G00 w G5 w5 := ((hx2.trans (hx3.mono (fun _ h => h.elim))).trans (.grow hg4)).trans (hx5.mono (fun _ h => K5.two h))
  have hops5 : c1.commit.D.ops.length ≤ 206 := by omega
  generalize c1.commit = c2 at hOn hops5
  generalize upto1 (3 + 16 / 8) 60 = P0 at hOn
  generalize upto1 1 16 = I0 at hOn
  clear h2 hx2 hr3 hx3 hg4 h5 hx5 m1 m2 m3 m4 m5 hc1 hx1 hops hcap hsz hN
  have hlenL : ∀ w', lenF w' 0 lv = some (.int .i64 l.length) := fun w' => hv.lenD w'
  have hlenM : ∀ w', lenF w' 0 mv = some (.int .i64 ml.length) := fun w' => hmv.lenD w'
  simp (maxSteps := 1000000) (disch := omega) only [↓sy1, sy2, sy3, readOK, sy5, sy6, Nat.reduceEqDiff, ↓reduceIte, sy7, sy8, sy9, sya, oneOf, syb, syc, Nat.reduceAdd, Nat.reduceMul, syd, sye, syf, syg, syh, reduceCtorEq, decide_true]
  refine loop_rule (fun e w' => ∃ (i : Nat) (G' : Gh) (c' : Csh) (P I : List Bool), i ≤ l.length ∧ i ≤ 30 ∧ e 10 = .int .i64 i ∧ e 0 = lv ∧ e 1 = mv ∧ e 5 = .pointer (some ⟨p, 0, none⟩) ∧ e 6 = .pointer (some ⟨m, 0, none⟩) ∧ e 8 = .pointer (some ⟨r, 0, none⟩) ∧ On5 G' w' m p lq r c' P I 60 50 16 ∧ c'.D.ops.length ≤ 206 + 206 * i ∧ Ext K5 G00 w G' w') (fun e _ => 30 - (intOf (e 10)).toNat)
    ⟨0, G5, c2, P0, I0, by omega, by omega, by simp [upd, updO, ev], by simp [upd, updO, ev], by simp [upd, updO, ev], by simp [upd, updO, ev], by simp [upd, updO, ev], by simp [upd, updO, ev], hOn, by omega, hx05⟩ ?_
  clear hOn hx05 hops5
  rintro e w6 ⟨i, G6, c3, P, I, hi, hi3, e10, e0, e1, e5, e6, e8, hOn, hops, hx6⟩
  by_cases hgo : i < l.length ∧ i < 30
  · obtain ⟨hgo1, hgo2⟩ := hgo
    obtain ⟨b, o, ha, hld, _⟩ := HasD5.at (Has.grow hv (hx6.toGrow (by unfold K5; omega))) hgo1
    simp (maxSteps := 1000000) (disch := omega) only [↓sy1, sy2, sy3, readOK, sy5, sy6, Nat.reduceEqDiff, ↓reduceIte, sy7, sy8, sy9, sya, oneOf, syb, syc, Nat.reduceAdd, Nat.reduceMul, syd, sye, syf, syg, syh, reduceCtorEq, F4_L0, e10, e0, e1, e5, e6, e8, hlenL, Int.ofNat_lt, hgo1, show ((i : Int) < 30) from by omega, decide_true, ha, hld]
    refine call0 (hOn.step (by omega) (by omega) l[i]) ?_
    rintro _ w7 ⟨rfl, G7, c4, P7, I7, hOn7, hops7, hx7⟩
    simp (maxSteps := 1000000) (disch := omega) only [↓sy1, sy2, sy3, readOK, sy5, sy6, Nat.reduceEqDiff, ↓reduceIte, sy7, sy8, sy9, sya, oneOf, syb, syc, Nat.reduceAdd, Nat.reduceMul, syd, sye, syf, syg, syh, reduceCtorEq, e10, e0, e1, e5, e6, e8]
    exact R_out ⟨⟨i + 1, G7, c4, P7, I7, by omega, by omega, rfl, hOn7, by omega, hx6.trans hx7⟩, by simp only [intOf]; omega⟩
  have hP60 := hOn.pl
  have hI16 := hOn.kk
  obtain ⟨hm, hr, hd, hcap, hsz, hN, _⟩ := hOn
  have hd0 : c3.dirty.length = 0 := by rw [hd]; rfl
  have hcap : c3.cap = 50 := hcap
  have hcnd : (i < l.length ∧ ¬ ((i : Int) < 30)) ∨ ¬ (i < l.length) := by omega
  clear hgo
  rcases hcnd with ⟨hg1, hg2⟩ | hg1
  all_goals first
    | (
      simp (maxSteps := 1000000) (disch := omega) only [↓sy1, sy2, sy3, readOK, sy5, sy6, Nat.reduceEqDiff, ↓reduceIte, sy7, sy8, sy9, sya, oneOf, syb, syc, Nat.reduceAdd, Nat.reduceMul, syd, sye, syf, syg, syh, reduceCtorEq, F4_L0, e10, e0, e1, e5, e6, e8, hlenL, Int.ofNat_lt, hg1, hg2, decide_true, decide_false]
      refine loop_rule (fun e w' => ∃ (i : Nat) (G' : Gh) (c' : Csh) (P' I' : List Bool), i ≤ ml.length ∧ i ≤ 10 ∧ e 11 = .int .i64 i ∧ e 1 = mv ∧ e 5 = .pointer (some ⟨p, 0, none⟩) ∧ e 6 = .pointer (some ⟨m, 0, none⟩) ∧ e 8 = .pointer (some ⟨r, 0, none⟩) ∧ MapAt G' 2 7 w' m p lq 0 c' P' I' ∧ I'.length = 16 ∧ Step c3 c' (2 * i) ∧ RM G' 8 w' r P I ∧ Ext K5 G00 w G' w') (fun e _ => 10 - (intOf (e 11)).toNat)
        ⟨0, G6, c3, P, I, by omega, by omega, by simp [upd, updO, ev], by simp [upd, updO, ev, e1], by simp [upd, updO, ev, e5], by simp [upd, updO, ev, e6], by simp [upd, updO, ev, e8], hm, hI16, (Step.zero c3), hr, hx6⟩ ?_)
    | (
      simp (maxSteps := 1000000) (disch := omega) only [↓sy1, sy2, sy3, readOK, sy5, sy6, Nat.reduceEqDiff, ↓reduceIte, sy7, sy8, sy9, sya, oneOf, syb, syc, Nat.reduceAdd, Nat.reduceMul, syd, sye, syf, syg, syh, reduceCtorEq, F4_L0, e10, e0, e1, e5, e6, e8, hlenL, Int.ofNat_lt, hg1, decide_true, decide_false]
      refine loop_rule (fun e w' => ∃ (i : Nat) (G' : Gh) (c' : Csh) (P' I' : List Bool), i ≤ ml.length ∧ i ≤ 10 ∧ e 11 = .int .i64 i ∧ e 1 = mv ∧ e 5 = .pointer (some ⟨p, 0, none⟩) ∧ e 6 = .pointer (some ⟨m, 0, none⟩) ∧ e 8 = .pointer (some ⟨r, 0, none⟩) ∧ MapAt G' 2 7 w' m p lq 0 c' P' I' ∧ I'.length = 16 ∧ Step c3 c' (2 * i) ∧ RM G' 8 w' r P I ∧ Ext K5 G00 w G' w') (fun e _ => 10 - (intOf (e 11)).toNat)
        ⟨0, G6, c3, P, I, by omega, by omega, by simp [upd, updO, ev], by simp [upd, updO, ev, e1], by simp [upd, updO, ev, e5], by simp [upd, updO, ev, e6], by simp [upd, updO, ev, e8], hm, hI16, (Step.zero c3), hr, hx6⟩ ?_)
  all_goals
    clear e10 e0 e1 e5 e6 e8 hg1 hi hi3
    have hA := hm.2
    clear hm hr hx6
    rintro e w7 ⟨i, G7, c4, P', I', hi, hi3, e11, e1, e5, e6, e8, h7, hI7, hst, hr7, hx7⟩
    obtain ⟨s1, s2, s3, s4, s5⟩ := id hst
    have hcnd : (i < ml.length ∧ i < 10) ∨ (i < ml.length ∧ ¬ (i < 10)) ∨ ¬ (i < ml.length) := by omega
    rcases hcnd with ⟨hg1, hg2⟩ | ⟨hg1, hg2⟩ | hg1
    · obtain ⟨b, o, ha, _, hc0, hc1⟩ := HasD5.at (Has.grow hmv (hx7.toGrow (by unfold K5; omega))) hg1
      by_cases k0 : ml[i].kind = 0
      · simp (maxSteps := 1000000) (disch := omega) only [↓sy1, sy2, sy3, readOK, sy5, sy6, Nat.reduceEqDiff, ↓reduceIte, sy7, sy8, sy9, sya, oneOf, syb, syc, Nat.reduceAdd, Nat.reduceMul, syd, sye, syf, syg, syh, reduceCtorEq, F4_L1, e11, e1, e5, e6, e8, hlenM, Int.ofNat_lt, hg1, show ((i : Int) < 10) from by omega, decide_true, ha, hc0, k0]
        refine call0 (page_tk h7 (by omega)) ?_
        rintro _ w8 ⟨G8, c5, hx8, rfl, h8, hst8⟩
        simp (maxSteps := 1000000) (disch := omega) only [↓sy1, sy2, sy3, readOK, sy5, sy6, Nat.reduceEqDiff, ↓reduceIte, sy7, sy8, sy9, sya, oneOf, syb, syc, Nat.reduceAdd, Nat.reduceMul, syd, sye, syf, syg, syh, reduceCtorEq, e11, e1, e5, e6, e8]
        exact R_out ⟨⟨i + 1, G8, c5, _, _, by omega, by omega, rfl, h8, hI7, (hst.trans hst8).le (by omega), hr7.ext hx8 (by omega) (by omega), hx7.trans (hx8.mono (fun _ h => K5.seven h))⟩, by simp only [intOf]; omega⟩
      by_cases k1 : ml[i].kind = 1
      · simp (maxSteps := 1000000) (disch := omega) only [↓sy1, sy2, sy3, readOK, sy5, sy6, Nat.reduceEqDiff, ↓reduceIte, sy7, sy8, sy9, sya, oneOf, syb, syc, Nat.reduceAdd, Nat.reduceMul, syd, sye, syf, syg, syh, reduceCtorEq, F4_L1, e11, e1, e5, e6, e8, hlenM, Int.ofNat_lt, hg1, show ((i : Int) < 10) from by omega, decide_true, ha, hc0, k1, Int.reduceEq, decide_false]
        refine call0 (inode_tk h7 (by omega)) ?_
        rintro _ w8 ⟨G8, c5, hx8, rfl, h8, hst8⟩
        simp (maxSteps := 1000000) (disch := omega) only [↓sy1, sy2, sy3, readOK, sy5, sy6, Nat.reduceEqDiff, ↓reduceIte, sy7, sy8, sy9, sya, oneOf, syb, syc, Nat.reduceAdd, Nat.reduceMul, syd, sye, syf, syg, syh, reduceCtorEq, e11, e1, e5, e6, e8]
        exact R_out ⟨⟨i + 1, G8, c5, _, _, by omega, by omega, rfl, h8, by rw [takeL_length]; exact hI7, (hst.trans hst8).le (by omega), hr7.ext hx8 (by omega) (by omega), hx7.trans (hx8.mono (fun _ h => K5.seven h))⟩, by simp only [intOf]; omega⟩
      by_cases k2 : ml[i].kind = 2
      · simp (maxSteps := 1000000) (disch := omega) only [↓sy1, sy2, sy3, readOK, sy5, sy6, Nat.reduceEqDiff, ↓reduceIte, sy7, sy8, sy9, sya, oneOf, syb, syc, Nat.reduceAdd, Nat.reduceMul, syd, sye, syf, syg, syh, reduceCtorEq, F4_L1, e11, e1, e5, e6, e8, hlenM, Int.ofNat_lt, hg1, show ((i : Int) < 10) from by omega, decide_true, ha, hc0, hc1, k2, Int.reduceEq, decide_false]
        refine call0 (givep_ok h7 (n := ml[i].n) (by omega)) ?_
        rintro _ w8 ⟨G8, c5, hx8, rfl, h8, hst8, _⟩
        simp (maxSteps := 1000000) (disch := omega) only [↓sy1, sy2, sy3, readOK, sy5, sy6, Nat.reduceEqDiff, ↓reduceIte, sy7, sy8, sy9, sya, oneOf, syb, syc, Nat.reduceAdd, Nat.reduceMul, syd, sye, syf, syg, syh, reduceCtorEq, e11, e1, e5, e6, e8]
        exact R_out ⟨⟨i + 1, G8, c5, _, _, by omega, by omega, rfl, h8, hI7, (hst.trans hst8).le (by omega), hr7.ext hx8 (by omega) (by omega), hx7.trans (hx8.mono (fun _ h => K5.seven h))⟩, by simp only [intOf]; omega⟩
      by_cases k3 : ml[i].kind = 3
      · simp (maxSteps := 1000000) (disch := omega) only [↓sy1, sy2, sy3, readOK, sy5, sy6, Nat.reduceEqDiff, ↓reduceIte, sy7, sy8, sy9, sya, oneOf, syb, syc, Nat.reduceAdd, Nat.reduceMul, syd, sye, syf, syg, syh, reduceCtorEq, F4_L1, e11, e1, e5, e6, e8, hlenM, Int.ofNat_lt, hg1, show ((i : Int) < 10) from by omega, decide_true, ha, hc0, hc1, k3, Int.reduceEq, decide_false]
        refine call0 (givei_ok h7 (n := ml[i].n) (by omega)) ?_
        rintro _ w8 ⟨G8, c5, hx8, rfl, h8, hst8, _⟩
        simp (maxSteps := 1000000) (disch := omega) only [↓sy1, sy2, sy3, readOK, sy5, sy6, Nat.reduceEqDiff, ↓reduceIte, sy7, sy8, sy9, sya, oneOf, syb, syc, Nat.reduceAdd, Nat.reduceMul, syd, sye, syf, syg, syh, reduceCtorEq, e11, e1, e5, e6, e8]
        exact R_out ⟨⟨i + 1, G8, c5, _, _, by omega, by omega, rfl, h8, by rw [giveL_length]; exact hI7, (hst.trans hst8).le (by omega), hr7.ext hx8 (by omega) (by omega), hx7.trans (hx8.mono (fun _ h => K5.seven h))⟩, by simp only [intOf]; omega⟩
      · simp (maxSteps := 1000000) (disch := omega) only [↓sy1, sy2, sy3, readOK, sy5, sy6, Nat.reduceEqDiff, ↓reduceIte, sy7, sy8, sy9, sya, oneOf, syb, syc, Nat.reduceAdd, Nat.reduceMul, syd, sye, syf, syg, syh, reduceCtorEq, F4_L1, e11, e1, e5, e6, e8, hlenM, Int.ofNat_lt, hg1, show ((i : Int) < 10) from by omega, decide_true, ha, hc0, k0, k1, k2, k3, decide_false]
        exact R_out ⟨⟨i + 1, G7, c4, P', I', by omega, by omega, rfl, h7, hI7, hst.le (by omega), hr7, hx7⟩, by simp only [intOf]; omega⟩
  all_goals first
    | (
      simp (maxSteps := 1000000) (disch := omega) only [↓sy1, sy2, sy3, readOK, sy5, sy6, Nat.reduceEqDiff, ↓reduceIte, sy7, sy8, sy9, sya, oneOf, syb, syc, Nat.reduceAdd, Nat.reduceMul, syd, sye, syf, syg, syh, reduceCtorEq, F4_L1, e11, e1, e5, e6, e8, hlenM, Int.ofNat_lt, hg1, show ¬ ((i : Int) < 10) from by omega, decide_true, decide_false]
      refine call0 (csabort_spec h7.1.cache) ?_)
    | (
      simp (maxSteps := 1000000) (disch := omega) only [↓sy1, sy2, sy3, readOK, sy5, sy6, Nat.reduceEqDiff, ↓reduceIte, sy7, sy8, sy9, sya, oneOf, syb, syc, Nat.reduceAdd, Nat.reduceMul, syd, sye, syf, syg, syh, reduceCtorEq, F4_L1, e11, e1, e5, e6, e8, hlenM, Int.ofNat_lt, hg1, decide_true, decide_false]
      refine call0 (csabort_spec h7.1.cache) ?_)
  all_goals
    rintro _ w8 ⟨rfl, hc8, hx8⟩
    have hM8 : MapAt G7 2 7 w8 m p lq 0 c4.abort P I := ⟨by rw [hI16, ← hI7]; exact h7.1.put hx8 (by omega) hc8 rfl, hA.aborted hd hst⟩
    simp (maxSteps := 1000000) (disch := omega) only [↓sy1, sy2, sy3, readOK, sy5, sy6, Nat.reduceEqDiff, ↓reduceIte, sy7, sy8, sy9, sya, oneOf, syb, syc, Nat.reduceAdd, Nat.reduceMul, syd, sye, syf, syg, syh, reduceCtorEq, e6, e8]
    refine call0 (same5_spec hM8 (hr7.ext hx8 (by omega) (by omega)) (by omega) (by omega)) ?_
    rintro _ w9 ⟨rfl, G9, _, _, hx9⟩
    simp (maxSteps := 1000000) (disch := omega) only [↓sy1, sy2, sy3, readOK, sy5, sy6, Nat.reduceEqDiff, ↓reduceIte, sy7, sy8, sy9, sya, oneOf, syb, syc, Nat.reduceAdd, Nat.reduceMul, syd, sye, syf, syg, syh, reduceCtorEq]
    exact R_out (((hx7.trans (hx8.mono (fun _ h => K5.seven h))).trans (hx9.mono (fun _ h => K5.seven h))).toGrow (by unfold K5; omega))
end Go.Proofs.YtbnecclognibaaaGreat

/- AllocPlays: the walk. -/
namespace Go.Proofs.YtbnecclognibaaaGreat
open Go
set_option linter.unusedSimpArgs false
open Go.RowKit (intOf)
theorem tableC_eq (k : Nat) (i : Int) : ∃ a b c : Int, tableC k i = .tuple #[.int .i64 a, .int .i64 b, .int .i64 c] := by
  unfold tableC; split <;> exact ⟨_, _, _, rfl⟩
set_option maxHeartbeats 8000000 in
theorem allocPlays_walk {w : World} {q : Nat} {ki : Int} {lv : Value} {l : List Deed5} (hq : q < 256) (hv : HasD5 w lv l) :
    Calls Tryz.prog 5 #[.int .u8 q, .int .i64 ki, lv] w (Ret fun v w' => v = .bool true ∧ Grow w w') := by
  apply enter5
  apply R_in
  have hmod : ((q : Int)).tmod 60 + 2 = ((q % 60 + 2 : Nat) : Int) := rfl
  have hN2 : 2 ≤ q % 60 + 2 ∧ q % 60 + 2 < 62 := by omega
  simp (maxSteps := 1000000) (disch := omega) only [↓sy1, sy2, sy3, readOK, sy5, sy6, Nat.reduceEqDiff, ↓reduceIte, sy7, sy8, sy9, sya, oneOf, syb, syc, Nat.reduceAdd, Nat.reduceMul, syd, sye, syf, syg, syh, reduceCtorEq, F5, hmod]
  generalize q % 60 + 2 = N at hN2
  clear hmod
  refine call0 (cached_spec G00 (pages := N) (size := 70) 2 7 (by omega) (by omega) (by omega) (by omega) (by omega) (by omega)) ?_
  rintro _ w1 ⟨p, lq, G1, rfl, hp1, hc1, hx1⟩
  simp (maxSteps := 1000000) (disch := omega) only [↓sy1, sy2, sy3, readOK, sy5, sy6, Nat.reduceEqDiff, ↓reduceIte, sy7, sy8, sy9, sya, oneOf, syb, syc, Nat.reduceAdd, Nat.reduceMul, syd, sye, syf, syg, syh, reduceCtorEq]
  by_cases hk : mayA N ki
  case neg =>
    refine call0 (make_bad hc1 (k := ki) (by rw [ac_N]; exact hk)) ?_
    rintro _ w2 ⟨rfl, hg2⟩
    simp (maxSteps := 1000000) (disch := omega) only [↓sy1, sy2, sy3, readOK, sy5, sy6, Nat.reduceEqDiff, ↓reduceIte, sy7, sy8, sy9, sya, oneOf, syb, syc, Nat.reduceAdd, Nat.reduceMul, syd, sye, syf, syg, syh, reduceCtorEq]
    refine call0 (rmake_bad hk) ?_
    rintro _ w2 ⟨rfl, rfl⟩
    simp (maxSteps := 1000000) (disch := omega) only [↓sy1, sy2, sy3, readOK, sy5, sy6, Nat.reduceEqDiff, ↓reduceIte, sy7, sy8, sy9, sya, oneOf, syb, syc, Nat.reduceAdd, Nat.reduceMul, syd, sye, syf, syg, syh, reduceCtorEq]
    refine call0 (live5_spec _) ?_
    rintro _ w3 ⟨rfl, hg3⟩
    simp (maxSteps := 1000000) (disch := omega) only [↓sy1, sy2, sy3, readOK, sy5, sy6, Nat.reduceEqDiff, ↓reduceIte, sy7, sy8, sy9, sya, oneOf, syb, syc, Nat.reduceAdd, Nat.reduceMul, syd, sye, syf, syg, syh, reduceCtorEq, Bool.not_true, decide_true, beq_self_eq_true]
    exact R_out ((hx1.growG.trans hg2).trans hg3)
  have hk' := hk
  unfold mayA at hk'
  obtain ⟨k, rfl⟩ : ∃ k : Nat, ki = k := ⟨ki.toNat, by omega⟩
  refine call0 (start5 (k := k) hc1 hx1 hk (by omega)) ?_
  rintro _ w2 ⟨m, G2, c1, rfl, h2, hops, hcap, hsz, hN, hx2⟩
  simp (maxSteps := 1000000) (disch := omega) only [↓sy1, sy2, sy3, readOK, sy5, sy6, Nat.reduceEqDiff, ↓reduceIte, sy7, sy8, sy9, sya, oneOf, syb, syc, Nat.reduceAdd, Nat.reduceMul, syd, sye, syf, syg, syh, reduceCtorEq]
  refine call0 (rmake_spec (N := N) (k := k) G2 8 (by omega) hk) ?_
  rintro _ w3 ⟨r, G3, rfl, hr3, hx3⟩
  simp (maxSteps := 1000000) (disch := omega) only [↓sy1, sy2, sy3, readOK, sy5, sy6, Nat.reduceEqDiff, ↓reduceIte, sy7, sy8, sy9, sya, oneOf, syb, syc, Nat.reduceAdd, Nat.reduceMul, syd, sye, syf, syg, syh, reduceCtorEq]
  refine call0 (live5_spec _) ?_
  rintro _ w4 ⟨rfl, hg4⟩
  simp (maxSteps := 1000000) (disch := omega) only [↓sy1, sy2, sy3, readOK, sy5, sy6, Nat.reduceEqDiff, ↓reduceIte, sy7, sy8, sy9, sya, oneOf, syb, syc, Nat.reduceAdd, Nat.reduceMul, syd, sye, syf, syg, syh, reduceCtorEq, Bool.not_true, decide_true, beq_self_eq_true]
  refine call0 (mcommit_ok ((h2.ext hx3 id id id).grow hg4) (by omega)) ?_
  rintro _ w5 ⟨rfl, G5, hx5, h5⟩
  obtain ⟨m1, m2, m3, m5, m4⟩ := commit_facts h2.1.cache.oks
  have hOn : On5 G5 w5 m p lq r c1.commit (upto1 (3 + k / 8) N) (upto1 1 k) N 70 k := ⟨h5, (hr3.grow hg4).ext hx5 (by omega) (by omega), m2, by rw [m3, hcap], by rw [m5, hsz], by rw [m1, hN], upto1_length _ _⟩
  have hx05 : Ext K5 G00 w G5 w5 := ((hx2.trans (hx3.mono (fun _ h => h.elim))).trans (.grow hg4)).trans (hx5.mono (fun _ h => K5.two h))
  have hops5 : c1.commit.D.ops.length ≤ 206 := by omega
  generalize c1.commit = c2 at hOn hops5
  generalize upto1 (3 + k / 8) N = P0 at hOn
  generalize upto1 1 k = I0 at hOn
  clear h2 hx2 hr3 hx3 hg4 h5 hx5 m1 m2 m3 m4 m5 hc1 hx1 hops hcap hsz hN
  have hlenL : ∀ w', lenF w' 0 lv = some (.int .i64 l.length) := fun w' => hv.lenD w'
  simp (maxSteps := 1000000) (disch := omega) only [↓sy1, sy2, sy3, readOK, sy5, sy6, Nat.reduceEqDiff, ↓reduceIte, sy7, sy8, sy9, sya, oneOf, syb, syc, Nat.reduceAdd, Nat.reduceMul, syd, sye, syf, syg, syh, reduceCtorEq, decide_true]
  refine loop_rule (fun e w' => ∃ (i : Nat) (G' : Gh) (c' : Csh) (P I : List Bool), i ≤ l.length ∧ i ≤ 60 ∧ e 14 = .int .i64 i ∧ e 2 = lv ∧ e 10 = .pointer (some ⟨m, 0, none⟩) ∧ e 12 = .pointer (some ⟨r, 0, none⟩) ∧ e 7 = .int .i64 k ∧ On5 G' w' m p lq r c' P I N 70 k ∧ c'.D.ops.length ≤ 206 + 206 * i ∧ Ext K5 G00 w G' w') (fun e _ => 60 - (intOf (e 14)).toNat)
    ⟨0, G5, c2, P0, I0, by omega, by omega, by simp [upd, updO, ev], by simp [upd, updO, ev], by simp [upd, updO, ev], by simp [upd, updO, ev], by simp [upd, updO, ev], hOn, by omega, hx05⟩ ?_
  clear hOn hx05 hops5
  rintro e w6 ⟨i, G6, c3, P, I, hi, hi3, e14, e2, e10, e12, e7, hOn, hops, hx6⟩
  by_cases hgo : i < l.length ∧ i < 60
  · obtain ⟨hgo1, hgo2⟩ := hgo
    obtain ⟨b, o, ha, hld, _⟩ := HasD5.at (Has.grow hv (hx6.toGrow (by unfold K5; omega))) hgo1
    simp (maxSteps := 1000000) (disch := omega) only [↓sy1, sy2, sy3, readOK, sy5, sy6, Nat.reduceEqDiff, ↓reduceIte, sy7, sy8, sy9, sya, oneOf, syb, syc, Nat.reduceAdd, Nat.reduceMul, syd, sye, syf, syg, syh, reduceCtorEq, F5_L0, e14, e2, e10, e12, e7, hlenL, Int.ofNat_lt, hgo1, show ((i : Int) < 60) from by omega, decide_true, ha, hld]
    refine call0 (hOn.step (by omega) (by omega) l[i]) ?_
    rintro _ w7 ⟨rfl, G7, c4, P7, I7, hOn7, hops7, hx7⟩
    simp (maxSteps := 1000000) (disch := omega) only [↓sy1, sy2, sy3, readOK, sy5, sy6, Nat.reduceEqDiff, ↓reduceIte, sy7, sy8, sy9, sya, oneOf, syb, syc, Nat.reduceAdd, Nat.reduceMul, syd, sye, syf, syg, syh, reduceCtorEq, e14, e2, e10, e12, e7]
    exact R_out ⟨⟨i + 1, G7, c4, P7, I7, by omega, by omega, rfl, hOn7, by omega, hx6.trans hx7⟩, by simp only [intOf]; omega⟩
  have hPl := hOn.pl
  have hIk := hOn.kk
  obtain ⟨hm, hr, _⟩ := hOn
  obtain ⟨ta, tb, tc, htt⟩ := tableC_eq I.length k
  have hcnd : (i < l.length ∧ ¬ ((i : Int) < 60)) ∨ ¬ (i < l.length) := by omega
  clear hgo
  rcases hcnd with ⟨hg1, hg2⟩ | hg1
  all_goals first
    | (
      simp (maxSteps := 1000000) (disch := omega) only [↓sy1, sy2, sy3, readOK, sy5, sy6, Nat.reduceEqDiff, ↓reduceIte, sy7, sy8, sy9, sya, oneOf, syb, syc, Nat.reduceAdd, Nat.reduceMul, syd, sye, syf, syg, syh, reduceCtorEq, F5_L0, e14, e2, e10, e12, e7, hlenL, Int.ofNat_lt, hg1, hg2, decide_true, decide_false]
      refine call0 (table_spec hm.1 (i := k)) ?_)
    | (
      simp (maxSteps := 1000000) (disch := omega) only [↓sy1, sy2, sy3, readOK, sy5, sy6, Nat.reduceEqDiff, ↓reduceIte, sy7, sy8, sy9, sya, oneOf, syb, syc, Nat.reduceAdd, Nat.reduceMul, syd, sye, syf, syg, syh, reduceCtorEq, F5_L0, e14, e2, e10, e12, e7, hlenL, Int.ofNat_lt, hg1, decide_true, decide_false]
      refine call0 (table_spec hm.1 (i := k)) ?_)
  all_goals
    rintro _ w6 ⟨rfl, rfl⟩
    rw [htt]
    simp (maxSteps := 1000000) (disch := omega) only [↓sy1, sy2, sy3, readOK, sy5, sy6, Nat.reduceEqDiff, ↓reduceIte, sy7, sy8, sy9, sya, oneOf, syb, syc, Nat.reduceAdd, Nat.reduceMul, syd, sye, syf, syg, syh, reduceCtorEq, e12, e7]
    refine call0 (rtable_spec hr (i := k)) ?_
    rintro _ w6 ⟨rfl, rfl⟩
    rw [htt]
    simp (maxSteps := 1000000) (disch := omega) only [↓sy1, sy2, sy3, readOK, sy5, sy6, Nat.reduceEqDiff, ↓reduceIte, sy7, sy8, sy9, sya, oneOf, syb, syc, Nat.reduceAdd, Nat.reduceMul, syd, sye, syf, syg, syh, reduceCtorEq, e10, e12]
    refine call0 (same5_spec hm hr (by omega) (by omega)) ?_
    rintro _ w7 ⟨rfl, G7, _, _, hx7⟩
    simp (maxSteps := 1000000) (disch := omega) only [↓sy1, sy2, sy3, readOK, sy5, sy6, Nat.reduceEqDiff, ↓reduceIte, sy7, sy8, sy9, sya, oneOf, syb, syc, Nat.reduceAdd, Nat.reduceMul, syd, sye, syf, syg, syh, reduceCtorEq, decide_true]
    exact R_out ((hx6.trans (hx7.mono (fun _ h => K5.seven h))).toGrow (by unfold K5; omega))
end Go.Proofs.YtbnecclognibaaaGreat

/- Arguments opened: rows of numbers, of bytes. What is only read reads as it did. -/
namespace Go.Proofs.YtbnecclognibaaaGreat
open Go
set_option linter.unusedSimpArgs false
open Go.RowKit Go.ChangeShapes Go.WideShapes Go.Deep Go.Joins
theorem okSlice {P : Program} {w : World} {r : Reach} {base : Nat} {t e : TypeId} {v : Value} (ht : P.underlying t = some (.slice e)) (h : Value.okWide P w r base t v) :
    v = .slice none 0 0 ∨ ∃ b o len cap, v = .slice (some ⟨b, o, none⟩) len cap := by
  simp only [Value.okWide, ht, Cell.okWide] at h
  cases v with
  | slice a len cap =>
    cases a with
    | none =>
      simp only [Cell.ok, ht] at h
      cases len <;> cases cap <;> simp at h
      exact .inl rfl
    | some a =>
      simp only [Cell.ok, ht] at h
      obtain ⟨_, _, _, hs, _⟩ := h
      obtain ⟨b, o, s⟩ := a
      cases hs
      exact .inr ⟨b, o, len, cap, rfl⟩
  | _ => simp [Cell.ok, ht] at h
section
variable {H : Type} {enc : TypeId × Value → H} {w : World} {base : Nat} {spare : Nat → Bool} {held : Bool}
theorem cellsBool : Tryz.prog.cellsOf 4 = 1 := by kernel_rfl
theorem cellsInt : Tryz.prog.cellsOf 3 = 1 := by kernel_rfl
theorem cellsU8 : Tryz.prog.cellsOf 5 = 1 := by kernel_rfl
set_option maxRecDepth 100000 in
/-- A row of numbers. -/
theorem open_intsL {v : Value} {d : DataW H} {p : List MemPlace} {W : World} {b0 : Nat} (hv : Value.okWide Tryz.prog W .any b0 66 v) (h : DataW.Trod enc Tryz.prog W 0 (fun _ => true) true 66 v d p) :
    ∃ l : List Int, HasI W v l ∧ l.length ≤ 9223372036854775807 ∧ ∀ z ∈ l, -9223372036854775808 ≤ z ∧ z ≤ 9223372036854775807 := by
  obtain ⟨fuel, hf⟩ := h
  rcases okSlice Tryz.underlying66 hv with rfl | ⟨b, o, len, cap, rfl⟩
  · exact ⟨[], Has.nil 1 W, by simp, by simp⟩
  rcases open_ints Tryz.underlying66 Tryz.underlying3 cellsInt hf with ⟨hcs, _⟩ | ⟨a, len', cap', zs, hcs, _, hl, hm, hz, hx, hcell, hwz⟩
  · simp [Value.cells] at hcs
  simp only [Value.cells, List.cons.injEq, Value.slice.injEq, and_true, Option.some.injEq] at hcs
  obtain ⟨rfl, rfl, rfl⟩ := hcs
  simp only [if_true] at hz
  have hlen : (zs.take len).length = len := by rw [List.length_take]; omega
  refine ⟨zs.take len, .inl ⟨b, o, len, cap, rfl, by simp only [ints, List.length_map, hlen]; omega, hl, fun j u hj => ?_⟩, ?_, fun z hz' => ?_⟩
  · simp only [ints, List.getElem?_map, Option.map_eq_some_iff] at hj
    obtain ⟨z, hj, rfl⟩ := hj
    obtain ⟨hjl, hj⟩ := List.getElem?_eq_some_iff.1 hj
    rw [hlen] at hjl
    have := hcell j (by omega)
    rw [add_lit] at this
    rw [this, ← hj, List.getElem_take, List.getD_eq_getElem?_getD, List.getElem?_eq_getElem (by omega)]; rfl
  · rw [hlen]; have : maxLen = 9223372036854775807 := rfl; omega
  · have := bounds_i64 (hwz z (List.mem_of_mem_take hz')); omega
set_option maxRecDepth 100000 in
/-- A row of bytes. -/
theorem open_bytesL {v : Value} {d : DataW H} {p : List MemPlace} {W : World} {b0 : Nat} (hv : Value.okWide Tryz.prog W .any b0 62 v) (h : DataW.Trod enc Tryz.prog W 0 (fun _ => true) true 62 v d p) :
    ∃ l : List UInt8, HasB W v l := by
  obtain ⟨fuel, hf⟩ := h
  rcases okSlice Tryz.underlying62 hv with rfl | ⟨b, o, len, cap, rfl⟩
  · exact ⟨[], Has.nil 1 W⟩
  rcases open_ints Tryz.underlying62 Tryz.underlying5 cellsU8 hf with ⟨hcs, _⟩ | ⟨a, len', cap', zs, hcs, _, hl, hm, hz, hx, hcell, hwz⟩
  · simp [Value.cells] at hcs
  simp only [Value.cells, List.cons.injEq, Value.slice.injEq, and_true, Option.some.injEq] at hcs
  obtain ⟨rfl, rfl, rfl⟩ := hcs
  simp only [if_true] at hz
  have hlen : (zs.take len).length = len := by rw [List.length_take]; omega
  refine ⟨(zs.take len).map fun z => UInt8.ofNat z.toNat, .inl ⟨b, o, len, cap, rfl, by simp [bs]; omega, hl, fun j u hj => ?_⟩⟩
  simp only [bs, List.map_map, List.getElem?_map, Option.map_eq_some_iff, Function.comp] at hj
  obtain ⟨z, hj, rfl⟩ := hj
  obtain ⟨hjl, hj⟩ := List.getElem?_eq_some_iff.1 hj
  rw [hlen] at hjl
  have := hcell j (by omega)
  rw [add_lit] at this
  have hbz := bounds_u8 (hwz z (by rw [← hj, List.getElem_take]; exact List.getElem_mem _))
  rw [this, ← hj, List.getElem_take, List.getD_eq_getElem?_getD, List.getElem?_eq_getElem (by omega)]
  rw [List.getElem_take] at hj
  have hz' : ((UInt8.ofNat z.toNat).toNat : Int) = z := by rw [UInt8.toNat_ofNat']; omega
  rw [hj, hz']; rfl
theorem u8_nat {n : Int} (h : (Lit.int .u8 n).wf = true) : ∃ k : Nat, k < 256 ∧ n = (k : Int) := by
  have := bounds_u8 h
  exact ⟨n.toNat, by omega, by omega⟩
/-- What is only read reads as it did. -/
theorem argsStay {P : Program} {W W' : World} (hl : laidOutB P = true) (hb : Below W.heap.size W W') : ∀ {ts : List TypeId} {vs : List Value} {ds : List (DataW H)} {ps : List MemPlace}, (ts.all fun t => P.readableRec t && decide (t < P.types.size)) = true →
    DataW.TrodAll enc P W 0 (fun _ => true) true ts vs ds ps → (∀ x ∈ ps, x.block < W.heap.size) → DataW.TrodAll enc P W' 0 (fun b => decide (b < W.heap.size)) true ts vs ds ps
  | [], _, _, _, _, h, _ => by
    obtain ⟨rfl, rfl, rfl⟩ := trodAll_nil h
    exact trodAll_mk0
  | t :: ts, _, _, _, ht, h, hlt => by
    obtain ⟨v, vs, d, ds, p, q, rfl, rfl, rfl, h0, h1⟩ := trodAll_cons h
    simp only [List.all_cons, Bool.and_eq_true, decide_eq_true_eq] at ht
    exact trodAll_cons_mk (Below.trod hl ht.1.1 ht.1.2 h0 hb (fun x hx => hlt x (by simp [hx]))) (argsStay hl hb ht.2 h1 (fun x hx => hlt x (by simp [hx])))
end
end Go.Proofs.YtbnecclognibaaaGreat

/- Arguments opened: rows of deeds (law05). -/
namespace Go.Proofs.YtbnecclognibaaaGreat
open Go
set_option linter.unusedSimpArgs false
open Go.RowKit Go.ChangeShapes Go.WideShapes Go.Deep Go.Joins
section
variable {H : Type} {enc : TypeId × Value → H} {w : World} {base : Nat} {spare : Nat → Bool} {held : Bool}
theorem cellsDeed5 : Tryz.prog.cellsOf 36 = 2 := by kernel_rfl
set_option maxRecDepth 100000 in
theorem deed5_fields {fuel : Nat} {cs : List Value} {x : DataW H × List MemPlace} (h : DataW.trod enc Tryz.prog w base spare held fuel 36 cs = some x) : ∃ y : Deed5, cs = y.cells := by
  obtain ⟨y0, y1, n, _, hl, h0, h1⟩ := trod_struct2 Tryz.underlying36 h
  rw [cellsDeed5] at hl
  match cs, hl with
  | [c0, c1], _ =>
    simp only [cellsInt, List.drop_zero, List.drop_succ_cons, List.take_succ_cons, List.take_zero] at h0 h1
    obtain ⟨a0, e0, _, w0⟩ := DataW.trod_int Tryz.underlying3 h0
    obtain ⟨a1, e1, _, w1⟩ := DataW.trod_int Tryz.underlying3 h1
    cases e0; cases e1
    exact ⟨⟨a0, a1⟩, rfl⟩
set_option maxRecDepth 100000 in
theorem open_deeds5 {v : Value} {d : DataW H} {p : List MemPlace} {W : World} {b0 : Nat} (hv : Value.okWide Tryz.prog W .any b0 22 v) (h : DataW.Trod enc Tryz.prog W 0 (fun _ => true) true 22 v d p) :
    ∃ l : List Deed5, HasD5 W v l := by
  have hC := cellsDeed5
  obtain ⟨fuel, hf⟩ := h
  rcases okSlice Tryz.underlying22 hv with rfl | ⟨b, o, len, cap, rfl⟩
  · exact ⟨[], Has.nil 2 W⟩
  rcases open_slice Tryz.underlying22 hf with ⟨hcs, _⟩ | ⟨a, len', cap', m, n, D, Pl, hcs, hb, hl, hm, hmm, hx, hi⟩
  · simp [Value.cells] at hcs
  simp only [Value.cells, List.cons.injEq, Value.slice.injEq, and_true, Option.some.injEq] at hcs
  obtain ⟨rfl, rfl, rfl⟩ := hcs
  simp only [if_true] at hmm
  have key : ∀ k, k ≤ len → ∃ l : List Deed5, l.length = k ∧ ∀ j u, (l.flatMap Deed5.cells)[j]? = some u → W.cell? ⟨b, o + j, none⟩ = some u := by
    intro k
    induction k with
    | zero => intro _; exact ⟨[], rfl, fun j u hj => by simp at hj⟩
    | succ k ih =>
      intro hk
      obtain ⟨l, hll, hlc⟩ := ih (by omega)
      obtain ⟨cs', hc, ht'⟩ := hi k (by omega)
      obtain ⟨x, rfl⟩ := deed5_fields ht'
      obtain ⟨_, _, hat⟩ := World.cells?_some hc
      rw [hC] at hat
      refine ⟨l ++ [x], by simp [hll], fun j u hj => ?_⟩
      rw [List.flatMap_append, List.flatMap_cons, List.flatMap_nil, List.append_nil] at hj
      by_cases hjl : j < (l.flatMap Deed5.cells).length
      · rw [List.getElem?_append_left hjl] at hj; exact hlc j u hj
      · rw [List.getElem?_append_right (by omega)] at hj
        rw [deeds5_length, hll] at hj hjl
        have hj4 : j - k * 2 < 2 := by
          have := (List.getElem?_eq_some_iff.1 hj).1
          simpa [Deed5.cells] using this
        have := hat (j - k * 2) hj4
        rw [add_lit, add_lit, hj] at this
        rw [← this]
        congr 2; omega
  obtain ⟨l, hll, hlc⟩ := key len (Nat.le_refl _)
  exact ⟨l, .inl ⟨b, o, len, cap, rfl, by rw [deeds5_length, hll], hl, hlc⟩⟩
end
end Go.Proofs.YtbnecclognibaaaGreat
