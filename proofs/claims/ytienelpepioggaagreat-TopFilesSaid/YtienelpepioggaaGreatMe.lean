/- Texts of one claim, put together in their order: what each proves stands ahead of it. -/
import Derived.Test.YtienelpepioggaaGreatMd
import Derived.Test.YtienelpepioggaaGreatMc
import Derived.Laws.ComplexArith
import Derived.Laws.BytesString
import Derived.Laws.Strings
import Derived.Laws.CopyRow
import Derived.Tactics
import Derived.Tactics2
import Derived.Defers
import Derived.Recover
import Derived.Laws.Pointers
import Derived.WideLaws
/- A page, an inode is taken; one is given back. -/
namespace Go.Proofs.YtienelpepioggaaGreat
open Go
set_option linter.unusedSimpArgs false
open Go.RowKit (intOf)
theorem HasI_block1 {w : World} {b : Nat} {x : Int} {t : TypeId} {f : Nat × Nat} (h : w.heap[b]? = some (.cells #[.int .i64 x] t f)) : HasI w (.slice (some ⟨b, 0, none⟩) 1 1) [x] :=
  .inl ⟨b, 0, 1, 1, rfl, rfl, by omega, fun j u hj => by
    rcases j with _ | j
    · simp [ints] at hj; subst hj; rw [cell_block h]; rfl
    · simp [ints] at hj⟩
theorem HasI_block2 {w : World} {b : Nat} {x y : Int} {t : TypeId} {f : Nat × Nat} (h : w.heap[b]? = some (.cells #[.int .i64 x, .int .i64 y] t f)) : HasI w (.slice (some ⟨b, 0, none⟩) 2 2) [x, y] :=
  .inl ⟨b, 0, 2, 2, rfl, rfl, by omega, fun j u hj => by
    rcases j with _ | _ | j
    · simp [ints] at hj; subst hj; rw [cell_block h]; rfl
    · simp [ints] at hj; subst hj; rw [cell_block h]; rfl
    · simp [ints] at hj⟩
/-- 512 zeros are made. -/
theorem mkz_rule {k : Kont} {e : Env} {w : World} {l : List GOp} {d : Option Nat} (hh : ∀ v w', Grow w w' → w'.ownsRow w.heap.size 5 1 v 512 (bs zsec) → R (symOps Tryz.prog l k (updO e d v) w')) :
    R (symOps Tryz.prog (⟨d, .hard (H (.makeSlice 46 (.const (.int .i64 512)) (.const (.int .i64 512))) 46), none⟩ :: l) k e w) := by
  refine mk_rule elemB (kx := .i64) (ky := .i64) (a := 512) (c := 512) rfl rfl (by omega) (by omega) (by omega) (by omega) rfl ?_
  refine hh _ _ ((Keep.refl _ _).alloc _) ?_
  have ho7 := own_made w w.heap.size (Nat.le_refl _) 5 (512 : Int).toNat (by decide) (.int .u8 0)
  rw [bs_zsec]; exact ho7
section
variable {G G' : Gh} {κ μ m p lq came k : Nat} {w w' : World} {c : Csh} {P I : List Bool}
theorem mem_dirty {n : Nat} (hn : n < c.N) : n ∈ c.dirty ↔ c.q n ≠ none := by
  rw [Csh.dirty, mem_keysQ]
  constructor
  · rintro ⟨_, b, hb⟩; rw [hb]; simp
  · intro h
    cases hq : c.q n with
    | none => exact absurd hq h
    | some b => exact ⟨hn, b, rfl⟩
theorem mem_zs {l : List Nat} {n : Nat} : (n : Int) ∈ zs l ↔ n ∈ l := by
  simp only [zs, List.mem_map]
  exact ⟨fun ⟨a, ha, hae⟩ => by have : a = n := by omega
                                subst this; exact ha, fun h => ⟨n, h, rfl⟩⟩
theorem wcode_zero {n : Nat} {len : Nat} (hn : n < c.N) (hl : len = 512) (h : c.q n = none → c.dirty.length < c.cap) : c.wcode n len = 0 := by
  unfold Csh.wcode
  rw [if_neg (by omega), if_neg (by omega), if_neg]
  rintro ⟨h1, h2⟩
  have := h (by simpa using h1); omega
theorem zs_len (l : List Nat) : (zs l).length = l.length := by simp [zs]
theorem fits1 {n : Nat} (h : c.fits [(n : Int)] = true) (hn : n < c.N) : c.wcode n 512 = 0 := by
  refine wcode_zero hn rfl fun hq => ?_
  have h : (insK (zs c.dirty) (n : Int)).length ≤ c.cap := of_decide_eq_true h
  have h1 : (n : Int) ∉ zs c.dirty := fun hm => (mem_dirty hn).1 (mem_zs.1 hm) hq
  rw [insK, if_neg h1, List.length_append, zs_len] at h
  simp at h; omega
theorem write_dirty {n : Nat} {b : List UInt8} (hn : n < c.N) : (c.write n b).dirty.length = c.dirty.length + if (c.q n).isSome then 0 else 1 := keysQ_put (N := c.N) (q := c.q) hn
theorem fits2 {n : Nat} (h : c.fits [2, (n : Int)] = true) (h2 : 2 < c.N) (hn : n < c.N) (hne : n ≠ 2) (b : List UInt8) : c.wcode 2 512 = 0 ∧ (c.write 2 b).wcode n 512 = 0 := by
  have h : (insK (insK (zs c.dirty) 2) (n : Int)).length ≤ c.cap := of_decide_eq_true h
  have e2 : ((2 : Nat) : Int) = 2 := rfl
  have hm2 := insK_length (zs c.dirty) 2
  have hmn := insK_length (insK (zs c.dirty) 2) n
  have hi2 : c.q 2 = none → (insK (zs c.dirty) 2).length = c.dirty.length + 1 := fun hq => by
    have h1 : (2 : Int) ∉ zs c.dirty := fun hm => (mem_dirty h2).1 (mem_zs.1 (e2 ▸ hm)) hq
    rw [insK, if_neg h1, List.length_append, zs_len]; rfl
  have hin : c.q n = none → (insK (insK (zs c.dirty) 2) n).length = (insK (zs c.dirty) 2).length + 1 := fun hq => by
    have h1 : (n : Int) ∉ insK (zs c.dirty) 2 := fun hm => by
      have h3 : (n : Int) ∈ zs c.dirty := by
        unfold insK at hm
        split at hm
        · exact hm
        · rcases List.mem_append.1 hm with hm | hm
          · exact hm
          · simp at hm; omega
      exact (mem_dirty hn).1 (mem_zs.1 h3) hq
    rw [insK, if_neg h1, List.length_append]; rfl
  rw [zs_len] at hm2
  refine ⟨wcode_zero h2 rfl fun hq => ?_, wcode_zero (c := c.write 2 b) hn rfl fun hq => ?_⟩
  · have := hi2 hq; omega
  · have hq' : c.q n = none := by simpa [Csh.write, qput, hne] using hq
    have h3 := hin hq'
    rw [write_dirty h2, show (c.write 2 b).cap = c.cap from rfl]
    cases hq2 : c.q 2 with
    | none => have := hi2 hq2; simp; omega
    | some b' => simp; omega
/-- The map, and what is taken. -/
def MapAt (G : Gh) (κ μ : Nat) (w : World) (m p lq came : Nat) (c : Csh) (P I : List Bool) : Prop := MapC G κ μ w m p lq came c I.length ∧ Alc c P I
theorem MapAt.ext {K : Nat → Prop} (h : MapAt G κ μ w m p lq came c P I) (hx : Ext K G w G' w') (hk : ¬ K κ) (hm : ¬ K μ) (h0 : ¬ K 0) : MapAt G' κ μ w' m p lq came c P I := ⟨h.1.ext hx hk hm h0, h.2⟩
theorem MapAt.grow (h : MapAt G κ μ w m p lq came c P I) (hg : Grow w w') : MapAt G κ μ w' m p lq came c P I := ⟨h.1.grow hg, h.2⟩
theorem MapAt.facts (h : MapAt G κ μ w m p lq came c P I) : 8 ≤ I.length ∧ I.length ≤ 512 ∧ I.length % 8 = 0 ∧ c.N ≤ 4096 ∧ 3 + I.length / 8 < c.N ∧ P.length = c.N ∧ (c.page 1).length = 512 ∧ (c.page 2).length = 512 := by
  have h1 := h.2.may
  have hn := h.1.n3
  unfold mayA at h1
  exact ⟨by omega, by omega, by omega, by omega, by omega, h.2.plen, h.1.cache.oks.plen (by omega), h.1.cache.oks.plen (by omega)⟩
/-- What Page answers, and leaves. -/
def PageR (G : Gh) (κ μ : Nat) (w : World) (m p lq came : Nat) (c : Csh) (P I : List Bool) (v : Value) : Prop :=
  (v = .tuple #[.int .i64 0, .int .i64 7] ∧ (firstN P < P.length → c.fits [2, (firstN P : Int)] = false) ∧ MapAt G κ μ w m p lq came c P I) ∨
  (v = .tuple #[.int .i64 (firstN P), .int .i64 0] ∧ firstN P < P.length ∧ c.fits [2, (firstN P : Int)] = true ∧ MapAt G κ μ w m p lq came (c.taken (firstN P)) (P.set (firstN P) true) I)
set_option maxHeartbeats 1000000 in
theorem page_spec (h : MapAt G κ μ w m p lq came c P I) :
    Calls Tryz.prog 87 #[.pointer (some ⟨m, 0, none⟩)] w (Ret fun v w' => ∃ G', Ext (fun x => x = μ) G w G' w' ∧ PageR G' κ μ w' m p lq came c P I v) := by
  obtain ⟨f1, f2, f3, f4, f5, f6, f7, f8⟩ := h.facts
  have hne := h.1.cache.ne
  apply enter87
  apply R_in
  simp (maxSteps := 1000000) (disch := omega) only [↓sy1, sy2, sy3, readOK, sy5, sy6, Nat.reduceEqDiff, ↓reduceIte, sy7, sy8, sy9, sya, oneOf, syb, syc, Nat.reduceAdd, Nat.reduceMul, syd, sye, syf, syg, syh, reduceCtorEq, F87]
  refine call0 (mread_spec h.1 (pg := 2) (.inr rfl)) ?_
  rintro _ w1 ⟨u, G1, rfl, hu, _, h1, hx1⟩
  rw [show nbits c I.length 2 = c.N from rfl]
  simp (maxSteps := 1000000) (disch := omega) only [↓sy1, sy2, sy3, readOK, sy5, sy6, Nat.reduceEqDiff, ↓reduceIte, sy7, sy8, sy9, sya, oneOf, syb, syc, Nat.reduceAdd, Nat.reduceMul, syd, sye, syf, syg, syh, reduceCtorEq]
  refine call0 (first_spec (b := c.page 2) (n := c.N) (Has.own hu) (by omega) (by omega)) ?_
  rintro _ w2 ⟨rfl, hg2⟩
  rw [h.2.p]
  by_cases hlt : firstN P < P.length
  · rw [show firstZ P = (firstN P : Int) from if_pos hlt]
    have h2 := h1.grow hg2
    simp (maxSteps := 1000000) (disch := omega) only [↓sy1, sy2, sy3, readOK, sy5, sy6, Nat.reduceEqDiff, ↓reduceIte, sy7, sy8, sy9, sya, oneOf, syb, syc, Nat.reduceAdd, Nat.reduceMul, syd, sye, syf, syg, syh, reduceCtorEq, show ¬ ((firstN P : Int) < 0) from by omega, decide_false, fill_gen, fillF_2 (u := .int .i64 2) (v := .int .i64 (firstN P : Int)) rfl rfl]
    have hg3 : Grow w2 (w2.alloc (.cells #[.int .i64 2, .int .i64 (firstN P : Int)] 3)) := (Keep.refl _ _).alloc _
    have hb3 := heap_alloc_new w2 (.cells #[.int .i64 2, .int .i64 (firstN P : Int)] 3)
    generalize w2.alloc (.cells #[.int .i64 2, .int .i64 (firstN P : Int)] 3) = w3 at hg3 hb3 ⊢
    have h3 := h2.grow hg3
    refine call0 (fits_spec h3 (l := [2, (firstN P : Int)]) (HasI_block2 hb3) (by simp)) ?_
    rintro _ w4 ⟨rfl, hg4⟩
    have h4 := h3.grow hg4
    have hx4 : Ext (fun x => x = μ) G w G1 w4 := ((hx1.trans (.grow hg2)).trans (.grow hg3)).trans (.grow hg4)
    cases hf : c.fits [2, (firstN P : Int)] with
    | false =>
      simp (maxSteps := 1000000) (disch := omega) only [↓sy1, sy2, sy3, readOK, sy5, sy6, Nat.reduceEqDiff, ↓reduceIte, sy7, sy8, sy9, sya, oneOf, syb, syc, Nat.reduceAdd, Nat.reduceMul, syd, sye, syf, syg, syh, reduceCtorEq]
      exact R_out ⟨G1, hx4, Or.inl ⟨rfl, fun _ => hf, h4, h.2⟩⟩
    | true =>
      have hfirst := h.2.first
      obtain ⟨hw1, hw2⟩ := fits2 (n := firstN P) hf (by omega) (by omega) (by omega) (flipB (c.page 2) (firstN P))
      simp (maxSteps := 1000000) (disch := omega) only [↓sy1, sy2, sy3, readOK, sy5, sy6, Nat.reduceEqDiff, ↓reduceIte, sy7, sy8, sy9, sya, oneOf, syb, syc, Nat.reduceAdd, Nat.reduceMul, syd, sye, syf, syg, syh, reduceCtorEq]
      refine call0 (turn_spec h4 (pg := 2) (i := firstN P) (.inr rfl) (by omega) hw1) ?_
      rintro _ w5 ⟨G5, h5, hx5⟩
      simp (maxSteps := 1000000) (disch := omega) only [↓sy1, sy2, sy3, readOK, sy5, sy6, Nat.reduceEqDiff, ↓reduceIte, sy7, sy8, sy9, sya, oneOf, syb, syc, Nat.reduceAdd, Nat.reduceMul, syd, sye, syf, syg, syh, reduceCtorEq]
      refine draw87_0 (fun _ => False) ?_
      have hgd : Grow w5 w5.drew := (Keep.refl _ _).drew
      have h6 := h5.grow hgd
      have hx6 := (hx4.trans hx5).trans (.grow hgd)
      generalize w5.drew = w6 at hgd h6 hx6 ⊢
      simp (maxSteps := 1000000) (disch := omega) only [↓sy1, sy2, sy3, readOK, sy5, sy6, Nat.reduceEqDiff, ↓reduceIte, sy7, sy8, sy9, sya, oneOf, syb, syc, Nat.reduceAdd, Nat.reduceMul, syd, sye, syf, syg, syh, reduceCtorEq, PL87_0, h6.cells.1]
      refine mkz_rule (fun zv w7 hg7 hz => ?_)
      have h7 := h6.grow hg7
      have hx7 := hx6.trans (.grow hg7)
      simp (maxSteps := 1000000) (disch := omega) only [↓sy1, sy2, sy3, readOK, sy5, sy6, Nat.reduceEqDiff, ↓reduceIte, sy7, sy8, sy9, sya, oneOf, syb, syc, Nat.reduceAdd, Nat.reduceMul, syd, sye, syf, syg, syh, reduceCtorEq]
      refine ⟨hg7, ?_⟩
      refine call0 (cswrite_spec h7.cache (n := firstN P) (b := zsec) (Has.own hz) (by rw [zsec_length]; omega)) ?_
      rintro _ w8 ⟨rfl, G8, hc8, hx8⟩
      rw [zsec_length, if_pos hw2] at hc8
      simp (maxSteps := 1000000) (disch := omega) only [↓sy1, sy2, sy3, readOK, sy5, sy6, Nat.reduceEqDiff, ↓reduceIte, sy7, sy8, sy9, sya, oneOf, syb, syc, Nat.reduceAdd, Nat.reduceMul, syd, sye, syf, syg, syh, reduceCtorEq]
      exact R_out ⟨G8, hx7.trans hx8, Or.inr ⟨rfl, hlt, hf, h7.put hx8 (fun hh => hne.2.1 hh.symm) hc8 rfl, h.2.taken f8 hlt⟩⟩
  · rw [show firstZ P = -1 from if_neg hlt]
    simp (maxSteps := 1000000) (disch := omega) only [↓sy1, sy2, sy3, readOK, sy5, sy6, Nat.reduceEqDiff, ↓reduceIte, sy7, sy8, sy9, sya, oneOf, syb, syc, Nat.reduceAdd, Nat.reduceMul, syd, sye, syf, syg, syh, reduceCtorEq, show ((-1 : Int) < 0) from by omega, decide_true]
    exact R_out ⟨G1, hx1.trans (.grow hg2), Or.inl ⟨rfl, fun h => absurd h hlt, h1.grow hg2, h.2⟩⟩
/-- What Inode answers, and leaves. -/
def InodeR (G : Gh) (κ μ : Nat) (w : World) (m p lq came : Nat) (c : Csh) (P I : List Bool) (v : Value) : Prop :=
  (v = .tuple #[.int .i64 0, .int .i64 7] ∧ (firstN I < I.length → c.fits [1] = false) ∧ MapAt G κ μ w m p lq came c P I) ∨
  (v = .tuple #[.int .i64 (firstN I), .int .i64 0] ∧ firstN I < I.length ∧ c.fits [1] = true ∧ MapAt G κ μ w m p lq came (c.turnI (firstN I)) P (I.set (firstN I) true))
set_option maxHeartbeats 1000000 in
theorem inode_spec (h : MapAt G κ μ w m p lq came c P I) :
    Calls Tryz.prog 33 #[.pointer (some ⟨m, 0, none⟩)] w (Ret fun v w' => ∃ G', Ext (fun x => x = μ) G w G' w' ∧ InodeR G' κ μ w' m p lq came c P I v) := by
  obtain ⟨f1, f2, f3, f4, f5, f6, f7, f8⟩ := h.facts
  have hne := h.1.cache.ne
  apply enter33
  apply R_in
  simp (maxSteps := 1000000) (disch := omega) only [↓sy1, sy2, sy3, readOK, sy5, sy6, Nat.reduceEqDiff, ↓reduceIte, sy7, sy8, sy9, sya, oneOf, syb, syc, Nat.reduceAdd, Nat.reduceMul, syd, sye, syf, syg, syh, reduceCtorEq, F33]
  refine call0 (mread_spec h.1 (pg := 1) (.inl rfl)) ?_
  rintro _ w1 ⟨u, G1, rfl, hu, _, h1, hx1⟩
  rw [show nbits c I.length 1 = I.length from rfl]
  simp (maxSteps := 1000000) (disch := omega) only [↓sy1, sy2, sy3, readOK, sy5, sy6, Nat.reduceEqDiff, ↓reduceIte, sy7, sy8, sy9, sya, oneOf, syb, syc, Nat.reduceAdd, Nat.reduceMul, syd, sye, syf, syg, syh, reduceCtorEq]
  refine call0 (first_spec (b := c.page 1) (n := I.length) (Has.own hu) (by omega) (by omega)) ?_
  rintro _ w2 ⟨rfl, hg2⟩
  rw [h.2.i]
  by_cases hlt : firstN I < I.length
  · rw [show firstZ I = (firstN I : Int) from if_pos hlt]
    have h2 := h1.grow hg2
    simp (maxSteps := 1000000) (disch := omega) only [↓sy1, sy2, sy3, readOK, sy5, sy6, Nat.reduceEqDiff, ↓reduceIte, sy7, sy8, sy9, sya, oneOf, syb, syc, Nat.reduceAdd, Nat.reduceMul, syd, sye, syf, syg, syh, reduceCtorEq, show ¬ ((firstN I : Int) < 0) from by omega, decide_false]
    have hg3 : Grow w2 (w2.alloc (.cells #[.int .i64 1] 3)) := (Keep.refl _ _).alloc _
    have hb3 := heap_alloc_new w2 (.cells #[.int .i64 1] 3)
    generalize w2.alloc (.cells #[.int .i64 1] 3) = w3 at hg3 hb3 ⊢
    have h3 := h2.grow hg3
    refine call0 (fits_spec h3 (l := [1]) (HasI_block1 hb3) (by simp)) ?_
    rintro _ w4 ⟨rfl, hg4⟩
    have h4 := h3.grow hg4
    have hx4 : Ext (fun x => x = μ) G w G1 w4 := ((hx1.trans (.grow hg2)).trans (.grow hg3)).trans (.grow hg4)
    cases hf : c.fits [1] with
    | false =>
      simp (maxSteps := 1000000) (disch := omega) only [↓sy1, sy2, sy3, readOK, sy5, sy6, Nat.reduceEqDiff, ↓reduceIte, sy7, sy8, sy9, sya, oneOf, syb, syc, Nat.reduceAdd, Nat.reduceMul, syd, sye, syf, syg, syh, reduceCtorEq]
      exact R_out ⟨G1, hx4, Or.inl ⟨rfl, fun _ => hf, h4, h.2⟩⟩
    | true =>
      have hfirst := h.2.first1
      have hw1 := fits1 (n := 1) hf (by omega)
      simp (maxSteps := 1000000) (disch := omega) only [↓sy1, sy2, sy3, readOK, sy5, sy6, Nat.reduceEqDiff, ↓reduceIte, sy7, sy8, sy9, sya, oneOf, syb, syc, Nat.reduceAdd, Nat.reduceMul, syd, sye, syf, syg, syh, reduceCtorEq]
      refine call0 (turn_spec h4 (pg := 1) (i := firstN I) (.inl rfl) (by omega) hw1) ?_
      rintro _ w5 ⟨G5, h5, hx5⟩
      simp (maxSteps := 1000000) (disch := omega) only [↓sy1, sy2, sy3, readOK, sy5, sy6, Nat.reduceEqDiff, ↓reduceIte, sy7, sy8, sy9, sya, oneOf, syb, syc, Nat.reduceAdd, Nat.reduceMul, syd, sye, syf, syg, syh, reduceCtorEq]
      refine R_out ⟨G5, hx4.trans hx5, Or.inr ⟨rfl, hlt, hf, ?_, h.2.flipI f7 hfirst (firstN_at hlt)⟩⟩
      rw [List.length_set]; exact h5
  · rw [show firstZ I = -1 from if_neg hlt]
    simp (maxSteps := 1000000) (disch := omega) only [↓sy1, sy2, sy3, readOK, sy5, sy6, Nat.reduceEqDiff, ↓reduceIte, sy7, sy8, sy9, sya, oneOf, syb, syc, Nat.reduceAdd, Nat.reduceMul, syd, sye, syf, syg, syh, reduceCtorEq, show ((-1 : Int) < 0) from by omega, decide_true]
    exact R_out ⟨G1, hx1.trans (.grow hg2), Or.inl ⟨rfl, fun h => absurd h hlt, h1.grow hg2, h.2⟩⟩
/-- What giving back answers, if there is room. -/
def giveC (l : List Bool) (n least : Int) : Int := if n < least ∨ (l.length : Int) ≤ n then 2 else if l[n.toNat]? = some true then 0 else 4
set_option maxHeartbeats 2000000 in
theorem give_spec (h : MapC G κ μ w m p lq came c k) {pg : Nat} (hpg : pg = 1 ∨ pg = 2) {L : List Bool} (hL : bitsOf (c.page pg) (nbits c k pg) = L) (h8 : 8 ≤ k) {n : Int} {least : Nat} :
    Calls Tryz.prog 75 #[.pointer (some ⟨m, 0, none⟩), .int .i64 pg, .int .i64 n, .int .i64 least] w (Ret fun v w' => ∃ G', Ext (fun x => x = μ) G w G' w' ∧
      v = .int .i64 (if giveC L n least = 0 ∧ c.fits [(pg : Int)] = false then 7 else giveC L n least) ∧ MapC G' κ μ w' m p lq came (if giveC L n least = 0 ∧ c.fits [(pg : Int)] = true then c.write pg (flipB (c.page pg) n.toNat) else c) k) := by
  have hn3 := h.n3
  have hnine := h.nine
  have hk5 := h.k5
  have hpl := h.cache.oks.plen (n := pg) (by omega)
  have hLl : L.length = nbits c k pg := by rw [← hL, bitsOf_length]
  have hnb : nbits c k pg ≤ 4096 := by unfold nbits; split <;> omega
  apply enter75
  apply R_in
  simp (maxSteps := 1000000) (disch := omega) only [↓sy1, sy2, sy3, readOK, sy5, sy6, Nat.reduceEqDiff, ↓reduceIte, sy7, sy8, sy9, sya, oneOf, syb, syc, Nat.reduceAdd, Nat.reduceMul, syd, sye, syf, syg, syh, reduceCtorEq, F75]
  refine call0 (mread_spec h hpg) ?_
  rintro _ w1 ⟨u, G1, rfl, hu, hub, h1, hx1⟩
  have huc := (Has.own hu).isCell
  have hg2 : Grow w1 (w1.alloc (.cells (Value.agg #[.slice none 0 0, .int .i64 0]).cells 128)) := (Keep.refl _ _).alloc _
  have hb2 := heap_alloc_new w1 (.cells (Value.agg #[.slice none 0 0, .int .i64 0]).cells 128)
  simp (maxSteps := 1000000) (disch := omega) only [↓sy1, sy2, sy3, readOK, sy5, sy6, Nat.reduceEqDiff, ↓reduceIte, sy7, sy8, sy9, sya, oneOf, syb, syc, Nat.reduceAdd, Nat.reduceMul, syd, sye, syf, syg, syh, reduceCtorEq]
  rw [agg2_cells (x := .slice none 0 0) (y := .int .i64 0) rfl rfl] at hg2 hb2 ⊢
  generalize w1.alloc (.cells #[.slice none 0 0, .int .i64 0] 128) = w2 at hg2 hb2 ⊢
  obtain ⟨w3, hst, hb3, hk3⟩ := stn2 (x := u) (y := .int .i64 (nbits c k pg)) hb2 huc rfl
  have hlt1 : ∀ b, u.ownBlock = some b → b < w1.heap.size := fun b hb => (World.ownsRow.lt hu b hb).2
  have hg3 : Grow w1 w3 := hg2.then hk3 (fun b hb hh => by omega)
  have hc3 : w3.cell? ⟨w1.heap.size, 1, none⟩ = some (.int .i64 (nbits c k pg)) := by rw [cell_block hb3]; rfl
  have hl3 : loadN w3 ⟨w1.heap.size, 0, none⟩ 0 2 = some [u, .int .i64 (nbits c k pg)] := loadN2 (by rw [cell_block hb3]; rfl) (by rw [cell_block hb3]; rfl)
  have h3 := h1.grow hg3
  have hx3 := hx1.trans (.grow hg3)
  by_cases hout : n < least ∨ (L.length : Int) ≤ n
  · have hcode : giveC L n least = 2 := if_pos hout
    rw [hcode, if_neg (by omega), if_neg (by omega)]
    by_cases hlo : n < least
    · simp (maxSteps := 1000000) (disch := omega) only [↓sy1, sy2, sy3, readOK, sy5, sy6, Nat.reduceEqDiff, ↓reduceIte, sy7, sy8, sy9, sya, oneOf, syb, syc, Nat.reduceAdd, Nat.reduceMul, syd, sye, syf, syg, syh, reduceCtorEq, hst, hlo, decide_true]
      exact R_out ⟨G1, hx3, h3⟩
    · simp (maxSteps := 1000000) (disch := omega) only [↓sy1, sy2, sy3, readOK, sy5, sy6, Nat.reduceEqDiff, ↓reduceIte, sy7, sy8, sy9, sya, oneOf, syb, syc, Nat.reduceAdd, Nat.reduceMul, syd, sye, syf, syg, syh, reduceCtorEq, hst, hlo, hc3, decide_false, show ((nbits c k pg : Nat) : Int) ≤ n from by omega, decide_true]
      exact R_out ⟨G1, hx3, h3⟩
  obtain ⟨i, rfl⟩ : ∃ i : Nat, n = i := ⟨n.toNat, by omega⟩
  have hi : i < nbits c k pg := by omega
  have hbit : L[i]? = some (bitB (c.page pg) i) := by rw [← hL, bitsOf_get hi]
  have hcode : giveC L i least = if bitB (c.page pg) i = true then 0 else 4 := by
    unfold giveC
    rw [if_neg hout, show ((i : Int).toNat) = i from rfl, hbit]
    simp
  rw [hcode]
  simp (maxSteps := 1000000) (disch := omega) only [↓sy1, sy2, sy3, readOK, sy5, sy6, Nat.reduceEqDiff, ↓reduceIte, sy7, sy8, sy9, sya, oneOf, syb, syc, Nat.reduceAdd, Nat.reduceMul, syd, sye, syf, syg, syh, reduceCtorEq, hst, show ¬ ((i : Int) < least) from by omega, hc3, decide_false, show ¬ (((nbits c k pg : Nat) : Int) ≤ (i : Int)) from by omega, hl3]
  refine call0 (bat_spec (b := c.page pg) (i := i) (Has.own (own_grow hu hg3)) (by omega) rfl (by omega)) ?_
  rintro _ w4 ⟨rfl, hg4⟩
  have h4 := h3.grow hg4
  have hx4 := hx3.trans (.grow hg4)
  cases hb : bitB (c.page pg) i with
  | false =>
    simp (maxSteps := 1000000) (disch := omega) only [↓sy1, sy2, sy3, readOK, sy5, sy6, Nat.reduceEqDiff, ↓reduceIte, sy7, sy8, sy9, sya, oneOf, syb, syc, Nat.reduceAdd, Nat.reduceMul, syd, sye, syf, syg, syh, reduceCtorEq, Int.reduceEq, Bool.false_eq_true, if_false, false_and]
    exact R_out ⟨G1, hx4, h4⟩
  | true =>
    simp (maxSteps := 1000000) (disch := omega) only [↓sy1, sy2, sy3, readOK, sy5, sy6, Nat.reduceEqDiff, ↓reduceIte, sy7, sy8, sy9, sya, oneOf, syb, syc, Nat.reduceAdd, Nat.reduceMul, syd, sye, syf, syg, syh, reduceCtorEq]
    have hg5 : Grow w4 (w4.alloc (.cells #[.int .i64 pg] 3)) := (Keep.refl _ _).alloc _
    have hb5 := heap_alloc_new w4 (.cells #[.int .i64 pg] 3)
    generalize w4.alloc (.cells #[.int .i64 pg] 3) = w5 at hg5 hb5 ⊢
    have h5 := h4.grow hg5
    refine call0 (fits_spec h5 (l := [(pg : Int)]) (HasI_block1 hb5) (by simp)) ?_
    rintro _ w6 ⟨rfl, hg6⟩
    have h6 := h5.grow hg6
    have hx6 := (hx4.trans (.grow hg5)).trans (.grow hg6)
    cases hf : c.fits [(pg : Int)] with
    | false =>
      simp (maxSteps := 1000000) (disch := omega) only [↓sy1, sy2, sy3, readOK, sy5, sy6, Nat.reduceEqDiff, ↓reduceIte, sy7, sy8, sy9, sya, oneOf, syb, syc, Nat.reduceAdd, Nat.reduceMul, syd, sye, syf, syg, syh, reduceCtorEq, Bool.false_eq_true, and_false, if_false, if_true, and_self]
      exact R_out ⟨G1, hx6, h6⟩
    | true =>
      have hw1 := fits1 (n := pg) hf (by omega)
      simp (maxSteps := 1000000) (disch := omega) only [↓sy1, sy2, sy3, readOK, sy5, sy6, Nat.reduceEqDiff, ↓reduceIte, sy7, sy8, sy9, sya, oneOf, syb, syc, Nat.reduceAdd, Nat.reduceMul, syd, sye, syf, syg, syh, reduceCtorEq, Bool.true_eq_false, and_false, if_false, if_true, and_self]
      refine call0 (turn_spec h6 (pg := pg) (i := i) hpg (by omega) hw1) ?_
      rintro _ w7 ⟨G7, h7, hx7⟩
      simp (maxSteps := 1000000) (disch := omega) only [↓sy1, sy2, sy3, readOK, sy5, sy6, Nat.reduceEqDiff, ↓reduceIte, sy7, sy8, sy9, sya, oneOf, syb, syc, Nat.reduceAdd, Nat.reduceMul, syd, sye, syf, syg, syh, reduceCtorEq]
      exact R_out ⟨G7, hx6.trans hx7, h7⟩
theorem mcache_spec (h : MapC G κ μ w m p lq came c k) : Calls Tryz.prog 39 #[.pointer (some ⟨m, 0, none⟩)] w (Ret fun v w' => v = .pointer (some ⟨p, 0, none⟩) ∧ w' = w) := by
  apply enter39
  apply R_in
  simp (maxSteps := 1000000) (disch := omega) only [↓sy1, sy2, sy3, readOK, sy5, sy6, Nat.reduceEqDiff, ↓reduceIte, sy7, sy8, sy9, sya, oneOf, syb, syc, Nat.reduceAdd, Nat.reduceMul, syd, sye, syf, syg, syh, reduceCtorEq, F39, h.cells.1]
  exact R_out trivial
/-- The page and the place of an inode, and whether there is one. -/
def tableC (k : Nat) (i : Int) : Value := if i < 0 ∨ (k : Int) ≤ i then .tuple #[.int .i64 0, .int .i64 0, .int .i64 2] else .tuple #[.int .i64 (3 + i / 8), .int .i64 (64 * (i % 8)), .int .i64 0]
theorem table_spec (h : MapC G κ μ w m p lq came c k) {i : Int} : Calls Tryz.prog 67 #[.pointer (some ⟨m, 0, none⟩), .int .i64 i] w (Ret fun v w' => v = tableC k i ∧ w' = w) := by
  have hk5 := h.k5
  apply enter67
  apply R_in
  by_cases hi : i < 0 ∨ (k : Int) ≤ i
  · rw [tableC, if_pos hi]
    by_cases h0 : i < 0
    · simp (maxSteps := 1000000) (disch := omega) only [↓sy1, sy2, sy3, readOK, sy5, sy6, Nat.reduceEqDiff, ↓reduceIte, sy7, sy8, sy9, sya, oneOf, syb, syc, Nat.reduceAdd, Nat.reduceMul, syd, sye, syf, syg, syh, reduceCtorEq, F67, h.cells.2, h0, decide_true]
      exact R_out trivial
    · simp (maxSteps := 1000000) (disch := omega) only [↓sy1, sy2, sy3, readOK, sy5, sy6, Nat.reduceEqDiff, ↓reduceIte, sy7, sy8, sy9, sya, oneOf, syb, syc, Nat.reduceAdd, Nat.reduceMul, syd, sye, syf, syg, syh, reduceCtorEq, F67, h.cells.2, h0, decide_false, show (k : Int) ≤ i from by omega, decide_true]
      exact R_out trivial
  · rw [tableC, if_neg hi]
    obtain ⟨j, rfl⟩ : ∃ j : Nat, i = j := ⟨i.toNat, by omega⟩
    have hm : (((j % 8 : Nat) : Int) * 512).tdiv 8 = 64 * ((j : Int) % 8) := by
      rw [show ((j % 8 : Nat) : Int) * 512 = ((j % 8 * 512 : Nat) : Int) from by omega, tdiv8]; omega
    simp (maxSteps := 1000000) (disch := omega) only [↓sy1, sy2, sy3, readOK, sy5, sy6, Nat.reduceEqDiff, ↓reduceIte, sy7, sy8, sy9, sya, oneOf, syb, syc, Nat.reduceAdd, Nat.reduceMul, syd, sye, syf, syg, syh, reduceCtorEq, F67, h.cells.2, show ¬ ((j : Int) < 0) from by omega, decide_false, show ¬ ((k : Int) ≤ (j : Int)) from by omega, tdiv8, tmod8, hm]
    refine R_out ?_
    rw [show (3 : Int) + ((j / 8 : Nat) : Int) = 3 + (j : Int) / 8 from by omega]
/-- Is one taken? -/
def usedC (l : List Bool) (n : Int) : Bool := decide (0 ≤ n ∧ n < l.length) && l.getD n.toNat false
set_option maxHeartbeats 1000000 in
theorem is_spec (h : MapC G κ μ w m p lq came c k) {pg : Nat} (hpg : pg = 1 ∨ pg = 2) {L : List Bool} (hL : bitsOf (c.page pg) (nbits c k pg) = L) {n : Int} :
    Calls Tryz.prog 86 #[.pointer (some ⟨m, 0, none⟩), .int .i64 pg, .int .i64 n] w (Ret fun v w' => v = .bool (usedC L n) ∧ ∃ G', Ext (fun x => x = μ) G w G' w' ∧ MapC G' κ μ w' m p lq came c k) := by
  have hn3 := h.n3
  have hnine := h.nine
  have hk5 := h.k5
  have hpl := h.cache.oks.plen (n := pg) (by omega)
  have hLl : L.length = nbits c k pg := by rw [← hL, bitsOf_length]
  have hnb : nbits c k pg ≤ 4096 := by unfold nbits; split <;> omega
  apply enter86
  apply R_in
  by_cases h0 : n < 0
  · simp (maxSteps := 1000000) (disch := omega) only [↓sy1, sy2, sy3, readOK, sy5, sy6, Nat.reduceEqDiff, ↓reduceIte, sy7, sy8, sy9, sya, oneOf, syb, syc, Nat.reduceAdd, Nat.reduceMul, syd, sye, syf, syg, syh, reduceCtorEq, F86, h0, decide_true]
    refine R_out ⟨?_, G, .refl _ _ _, h⟩
    simp [usedC]; omega
  simp (maxSteps := 1000000) (disch := omega) only [↓sy1, sy2, sy3, readOK, sy5, sy6, Nat.reduceEqDiff, ↓reduceIte, sy7, sy8, sy9, sya, oneOf, syb, syc, Nat.reduceAdd, Nat.reduceMul, syd, sye, syf, syg, syh, reduceCtorEq, F86, h0, decide_false]
  refine call0 (mread_spec h hpg) ?_
  rintro _ w1 ⟨u, G1, rfl, hu, hub, h1, hx1⟩
  have huc := (Has.own hu).isCell
  have hg2 : Grow w1 (w1.alloc (.cells (Value.agg #[.slice none 0 0, .int .i64 0]).cells 128)) := (Keep.refl _ _).alloc _
  have hb2 := heap_alloc_new w1 (.cells (Value.agg #[.slice none 0 0, .int .i64 0]).cells 128)
  simp (maxSteps := 1000000) (disch := omega) only [↓sy1, sy2, sy3, readOK, sy5, sy6, Nat.reduceEqDiff, ↓reduceIte, sy7, sy8, sy9, sya, oneOf, syb, syc, Nat.reduceAdd, Nat.reduceMul, syd, sye, syf, syg, syh, reduceCtorEq]
  rw [agg2_cells (x := .slice none 0 0) (y := .int .i64 0) rfl rfl] at hg2 hb2 ⊢
  generalize w1.alloc (.cells #[.slice none 0 0, .int .i64 0] 128) = w2 at hg2 hb2 ⊢
  obtain ⟨w3, hst, hb3, hk3⟩ := stn2 (x := u) (y := .int .i64 (nbits c k pg)) hb2 huc rfl
  have hg3 : Grow w1 w3 := hg2.then hk3 (fun b hb hh => by omega)
  have hc3 : w3.cell? ⟨w1.heap.size, 1, none⟩ = some (.int .i64 (nbits c k pg)) := by rw [cell_block hb3]; rfl
  have hl3 : loadN w3 ⟨w1.heap.size, 0, none⟩ 0 2 = some [u, .int .i64 (nbits c k pg)] := loadN2 (by rw [cell_block hb3]; rfl) (by rw [cell_block hb3]; rfl)
  have h3 := h1.grow hg3
  have hx3 := hx1.trans (.grow hg3)
  obtain ⟨i, rfl⟩ : ∃ i : Nat, n = i := ⟨n.toNat, by omega⟩
  by_cases hi : i < nbits c k pg
  · have hbit : L[i]? = some (bitB (c.page pg) i) := by rw [← hL, bitsOf_get hi]
    simp (maxSteps := 1000000) (disch := omega) only [↓sy1, sy2, sy3, readOK, sy5, sy6, Nat.reduceEqDiff, ↓reduceIte, sy7, sy8, sy9, sya, oneOf, syb, syc, Nat.reduceAdd, Nat.reduceMul, syd, sye, syf, syg, syh, reduceCtorEq, hst, hc3, Int.ofNat_lt, hi, decide_true, hl3]
    refine call0 (bat_spec (b := c.page pg) (i := i) (Has.own (own_grow hu hg3)) (by omega) rfl (by omega)) ?_
    rintro _ w4 ⟨rfl, hg4⟩
    simp (maxSteps := 1000000) (disch := omega) only [↓sy1, sy2, sy3, readOK, sy5, sy6, Nat.reduceEqDiff, ↓reduceIte, sy7, sy8, sy9, sya, oneOf, syb, syc, Nat.reduceAdd, Nat.reduceMul, syd, sye, syf, syg, syh, reduceCtorEq]
    refine R_out ⟨?_, G1, hx3.trans (.grow hg4), h3.grow hg4⟩
    have h4 : usedC L (i : Int) = bitB (c.page pg) i := by
      unfold usedC
      rw [decide_eq_true (by omega), Bool.true_and, show ((i : Int).toNat) = i from rfl, List.getD_eq_getElem?_getD, hbit]; rfl
    rw [h4]
  · simp (maxSteps := 1000000) (disch := omega) only [↓sy1, sy2, sy3, readOK, sy5, sy6, Nat.reduceEqDiff, ↓reduceIte, sy7, sy8, sy9, sya, oneOf, syb, syc, Nat.reduceAdd, Nat.reduceMul, syd, sye, syf, syg, syh, reduceCtorEq, hst, hc3, Int.ofNat_lt, hi, decide_false]
    refine R_out ⟨?_, G1, hx3, h3⟩
    have h4 : usedC L (i : Int) = false := by
      unfold usedC
      rw [decide_eq_false (by omega)]; rfl
    rw [h4]
end
end Go.Proofs.YtienelpepioggaaGreat

/- Small whole numbers as floats; sums of complex numbers; their parts. -/
namespace Go.Proofs.YtienelpepioggaaGreat
open Go
set_option linter.unusedSimpArgs false
def flt (n : Nat) : Nat := FloatKind.f64.format.nearest false n 0
abbrev f64 := FloatKind.f64.format
theorem f64_least : f64.leastPlace = -1074 := by rfl
theorem f64_binade : f64.binade = 2 ^ 52 := by rfl
theorem f64_sign : f64.signWeight = 2 ^ 63 := by rfl
theorem f64_inf : f64.infRung = 2047 * 2 ^ 52 := by rfl
theorem f64_frac : f64.fractionBits = 52 := by rfl
theorem cut_exact {way : Ieee.Toward} {n d a : Nat} (hw : way = .even ∨ way = .zero) (hn : n = a * 2 ^ d) (hd : d ≤ n.log2 + 2) : way.cut false n d = a := by
  have hp : 0 < 2 ^ d := Nat.pow_pos (by omega)
  unfold Ieee.Toward.cut
  simp only [Nat.min_eq_left hd, Nat.one_shiftLeft]
  have h1 : n / 2 ^ d = a := by rw [hn, Nat.mul_div_cancel _ hp]
  have h2 : n % 2 ^ d = 0 := by rw [hn, Nat.mul_mod_left]
  rw [h1, h2]
  have h3 : (2 ^ d == 2 * 0) = false := by simp
  rcases hw with rfl | rfl
  · simp
  · simp
theorem fl_q {n K : Nat} (h1 : 2 ^ K ≤ n) (h2 : n < 2 ^ (K + 1)) (hK : K ≤ 12) : 2 ^ 52 ≤ n * 2 ^ (52 - K) ∧ n * 2 ^ (52 - K) < 2 ^ 53 := by
  have e1 : 2 ^ 52 = 2 ^ K * 2 ^ (52 - K) := by rw [← Nat.pow_add]; congr 1; omega
  have e2 : 2 ^ 53 = 2 ^ (K + 1) * 2 ^ (52 - K) := by rw [← Nat.pow_add]; congr 1; omega
  have hp : 0 < 2 ^ (52 - K) := Nat.pow_pos (by omega)
  constructor
  · rw [e1]; exact Nat.mul_le_mul_right _ h1
  · rw [e2]; exact Nat.mul_lt_mul_of_pos_right h2 hp
theorem fl_log {n K s : Nat} (h1 : 2 ^ K ≤ n) (h2 : n < 2 ^ (K + 1)) : (n * 2 ^ s).log2 = K + s := by
  have hp : 0 < 2 ^ s := Nat.pow_pos (by omega)
  have hn : 0 < n := Nat.lt_of_lt_of_le (Nat.pow_pos (by omega)) h1
  refine (Nat.log2_eq_iff (Nat.ne_of_gt (Nat.mul_pos hn hp))).2 ⟨?_, ?_⟩
  · rw [Nat.pow_add]; exact Nat.mul_le_mul_right _ h1
  · rw [show K + s + 1 = (K + 1) + s from by omega, Nat.pow_add]; exact Nat.mul_lt_mul_of_pos_right h2 hp
theorem fl_near {n K s : Nat} (h1 : 2 ^ K ≤ n) (h2 : n < 2 ^ (K + 1)) (hK : K ≤ 12) (hs : s = 0 ∨ 52 ≤ s) : f64.nearest false (n * 2 ^ s) (-(s : Int)) = (1022 + K) * 2 ^ 52 + n * 2 ^ (52 - K) := by
  have hlog := fl_log (s := s) h1 h2
  obtain ⟨q1, q2⟩ := fl_q h1 h2 hK
  have hp : 0 < 2 ^ s := Nat.pow_pos (by omega)
  have hn : 0 < n := Nat.lt_of_lt_of_le (Nat.pow_pos (by omega)) h1
  unfold Ieee.Format.nearest
  rw [if_neg (Nat.ne_of_gt (Nat.mul_pos hn hp))]
  simp only [hlog, f64_least, f64_frac, f64_binade, f64_inf]
  have hlast : max (-(s : Int) + ((K + s : Nat) : Int) - ((52 : Nat) : Int)) (-1074) = (K : Int) - 52 := by omega
  rw [hlast]
  have hkept : Ieee.Toward.even.cut false ((n * 2 ^ s) <<< (-(s : Int) - ((K : Int) - 52)).toNat) (((K : Int) - 52) - -(s : Int)).toNat = n * 2 ^ (52 - K) := by
    rcases hs with rfl | hs
    · rw [show (-((0 : Nat) : Int) - ((K : Int) - 52)).toNat = 52 - K from by omega, show (((K : Int) - 52) - -((0 : Nat) : Int)).toNat = 0 from by omega, Nat.shiftLeft_eq, Nat.pow_zero, Nat.mul_one]
      exact cut_exact (.inl rfl) (by simp) (by omega)
    · rw [show (-(s : Int) - ((K : Int) - 52)).toNat = 0 from by omega, show (((K : Int) - 52) - -(s : Int)).toNat = s + K - 52 from by omega, Nat.shiftLeft_zero]
      refine cut_exact (.inl rfl) ?_ (by rw [hlog]; omega)
      rw [Nat.mul_assoc, ← Nat.pow_add]; congr 2; omega
  rw [hkept, show (((K : Int) - 52) - -1074).toNat = 1022 + K from by omega]
  have h7 : (1022 + K) * 2 ^ 52 ≤ 1034 * 2 ^ 52 := Nat.mul_le_mul_right _ (by omega)
  have h8 : (1022 + K) * 2 ^ 52 + n * 2 ^ (52 - K) ≤ 2047 * 2 ^ 52 := Nat.le_trans (Nat.add_le_add h7 (Nat.le_of_lt q2)) (by decide)
  rw [Nat.min_eq_left h8]
  rfl
theorem fl_read {n K : Nat} (h1 : 2 ^ K ≤ n) (h2 : n < 2 ^ (K + 1)) (hK : K ≤ 12) : f64.read ((1022 + K) * 2 ^ 52 + n * 2 ^ (52 - K)) = .number false (n * 2 ^ (52 - K)) ((K : Int) - 52) := by
  obtain ⟨q1, q2⟩ := fl_q h1 h2 hK
  generalize n * 2 ^ (52 - K) = q at q1 q2
  have e : (1022 + K) * 2 ^ 52 + q = (1023 + K) * 2 ^ 52 + (q - 2 ^ 52) := by
    have h9 : (1023 + K) * 2 ^ 52 = (1022 + K) * 2 ^ 52 + 2 ^ 52 := by
      rw [show 1023 + K = (1022 + K) + 1 from by omega, Nat.add_mul, Nat.one_mul]
    rw [h9]
    generalize (1022 + K) * 2 ^ 52 = a
    omega
  have hle : (1023 + K) * 2 ^ 52 ≤ 1035 * 2 ^ 52 := Nat.mul_le_mul_right _ (by omega)
  have hge : 1023 * 2 ^ 52 ≤ (1023 + K) * 2 ^ 52 := Nat.mul_le_mul_right _ (by omega)
  have hr : q - 2 ^ 52 < 2 ^ 52 := by omega
  rw [e]
  generalize hq' : q - 2 ^ 52 = r at hr
  have hdiv : ((1023 + K) * 2 ^ 52 + r) / 2 ^ 52 = 1023 + K := by
    rw [Nat.add_comm, Nat.add_mul_div_right _ _ (Nat.pow_pos (by omega)), Nat.div_eq_of_lt hr]; omega
  have hmod : ((1023 + K) * 2 ^ 52 + r) % 2 ^ 52 = r := by
    rw [Nat.add_comm, Nat.add_mul_mod_self_right, Nat.mod_eq_of_lt hr]
  have hlt : (1023 + K) * 2 ^ 52 + r < 2 ^ 63 := by omega
  unfold Ieee.Format.read
  simp only [f64_sign, f64_binade, f64_inf, f64_least, Nat.mod_eq_of_lt hlt, Nat.div_eq_of_lt hlt]
  rw [if_neg (by omega), if_pos (by omega), hdiv, hmod]
  have e2 : 2 ^ 52 + r = q := by omega
  have e3 : (-1074 : Int) + ((1023 + K - 1 : Nat) : Int) = (K : Int) - 52 := by omega
  rw [e2, e3]
  rfl
theorem flt_eq {n K : Nat} (h1 : 2 ^ K ≤ n) (h2 : n < 2 ^ (K + 1)) (hK : K ≤ 12) : flt n = (1022 + K) * 2 ^ 52 + n * 2 ^ (52 - K) := by
  have := fl_near (s := 0) h1 h2 hK (.inl rfl)
  rw [Nat.pow_zero, Nat.mul_one] at this
  exact this
theorem fl_K {n : Nat} (h : 0 < n) (h2 : n < 8192) : ∃ K, 2 ^ K ≤ n ∧ n < 2 ^ (K + 1) ∧ K ≤ 12 := by
  obtain ⟨h3, h4⟩ := (Nat.log2_eq_iff (k := n.log2) (Nat.ne_of_gt h)).1 rfl
  refine ⟨n.log2, h3, h4, ?_⟩
  refine Nat.le_of_not_lt fun hc => ?_
  have : 2 ^ 13 ≤ 2 ^ n.log2 := Nat.pow_le_pow_right (by omega) hc
  omega
def fltTop : Nat := 8000
theorem sum_pos {m n : Nat} {i j base : Int} {a b : Nat} (hb : min i j = base) (ha : m <<< (i - base).toNat = a) (hc : n <<< (j - base).toNat = b) (hp : 0 < a + b) : Ieee.Datum.sum (.number false m i) (.number false n j) = some (.number false (a + b) base) := by
  subst hb; subst ha; subst hc
  have ht : Ieee.signed false m (i - min i j).toNat + Ieee.signed false n (j - min i j).toNat = ((m <<< (i - min i j).toNat + n <<< (j - min i j).toNat : Nat) : Int) := by
    simp only [Ieee.signed, Bool.false_eq_true, if_false]; omega
  generalize m <<< (i - min i j).toNat + n <<< (j - min i j).toNat = t at ht hp
  show some (Ieee.Datum.number (if Ieee.signed false m (i - min i j).toNat + Ieee.signed false n (j - min i j).toNat = 0 then false && false else decide (Ieee.signed false m (i - min i j).toNat + Ieee.signed false n (j - min i j).toNat < 0)) (Ieee.signed false m (i - min i j).toNat + Ieee.signed false n (j - min i j).toNat).natAbs (min i j)) = _
  rw [ht, if_neg (by omega), Int.natAbs_natCast, decide_eq_false (by omega)]
set_option exponentiation.threshold 2000 in
theorem flt_sum {n x : Nat} (h : n < fltTop) (hx : x ≤ 1) : f64.add (flt n) (flt x) = some (flt (n + x)) := by
  unfold fltTop at h
  rcases Nat.eq_zero_or_pos n with rfl | hn
  · rcases Nat.lt_or_ge x 1 with h1 | h1
    · rw [show x = 0 by omega]; kernel_rfl
    · rw [show x = 1 by omega]; kernel_rfl
  obtain ⟨K, k1, k2, k3⟩ := fl_K hn (by omega)
  obtain ⟨K', j1, j2, j3⟩ := fl_K (n := n + 1) (by omega) (by omega)
  have hr := fl_read k1 k2 k3
  rw [← flt_eq k1 k2 k3] at hr
  have e52 : n * 2 ^ (52 - K) * 2 ^ K = n * 2 ^ 52 := by rw [Nat.mul_assoc, ← Nat.pow_add]; congr 2; omega
  rcases Nat.lt_or_ge x 1 with h1 | h1
  · rw [show x = 0 by omega]
    have h0 : f64.read (flt 0) = .number false 0 (-1074) := by kernel_rfl
    have ht : n * 2 ^ (52 - K) * 2 ^ (1022 + K) = n * 2 ^ 1074 := by rw [Nat.mul_assoc, ← Nat.pow_add]; congr 2; omega
    have hnear := fl_near (s := 1074) k1 k2 k3 (.inr (by omega))
    have hs := sum_pos (m := n * 2 ^ (52 - K)) (n := 0) (i := (K : Int) - 52) (j := -1074) (base := -1074) (a := n * 2 ^ 1074) (b := 0) (by omega) (by rw [show ((K : Int) - 52 - -1074).toNat = 1022 + K from by omega, Nat.shiftLeft_eq, ht]) (Nat.zero_shiftLeft _) (by rw [Nat.add_zero]; exact Nat.mul_pos hn (Nat.two_pow_pos 1074))
    unfold Ieee.Format.add
    rw [hr, h0, hs, Nat.add_zero]
    exact congrArg some (hnear.trans (flt_eq k1 k2 k3).symm)
  · rw [show x = 1 by omega]
    have h0 : f64.read (flt 1) = .number false (2 ^ 52) (-52) := by kernel_rfl
    have hnear := fl_near (s := 52) j1 j2 j3 (.inr (by omega))
    have hs := sum_pos (m := n * 2 ^ (52 - K)) (n := 2 ^ 52) (i := (K : Int) - 52) (j := -52) (base := -52) (a := n * 2 ^ 52) (b := 2 ^ 52) (by omega) (by rw [show ((K : Int) - 52 - -52).toNat = K from by omega, Nat.shiftLeft_eq, e52]) (Nat.shiftLeft_zero ..) (Nat.lt_of_lt_of_le (Nat.two_pow_pos 52) (Nat.le_add_left _ _))
    unfold Ieee.Format.add
    rw [hr, h0, hs, show n * 2 ^ 52 + 2 ^ 52 = (n + 1) * 2 ^ 52 from by rw [Nat.add_mul, Nat.one_mul]]
    exact congrArg some (hnear.trans (flt_eq j1 j2 j3).symm)
theorem flt_add {n x : Nat} (h : n < fltTop) (hx : x ≤ 1) : floatBits .add .f64 (flt n) (flt x) = some (flt (n + x)) := flt_sum h hx
theorem flt_int {n : Nat} (h : n < fltTop) : floatToIntVal .f64 (flt n) .i64 = some (n : Int) := by
  unfold fltTop at h
  rcases Nat.eq_zero_or_pos n with rfl | hn
  · kernel_rfl
  obtain ⟨K, k1, k2, k3⟩ := fl_K hn (by omega)
  have hr := fl_read k1 k2 k3
  rw [← flt_eq k1 k2 k3] at hr
  have hr : FloatKind.f64.decode (flt n) = .number false (n * 2 ^ (52 - K)) ((K : Int) - 52) := hr
  unfold floatToIntVal
  rw [hr]
  have hcut : Ieee.Toward.zero.cut false ((n * 2 ^ (52 - K)) <<< ((K : Int) - 52).toNat) (-((K : Int) - 52)).toNat = n := by
    rw [show ((K : Int) - 52).toNat = 0 from by omega, show (-((K : Int) - 52)).toNat = 52 - K from by omega, Nat.shiftLeft_zero]
    exact cut_exact (.inr rfl) rfl (by rw [fl_log k1 k2]; omega)
  simp only [Ieee.Datum.toInt, Ieee.Datum.integral, hcut, Ieee.signed, Bool.false_eq_true, if_false, Nat.shiftLeft_zero]
  have hmin : IntKind.min .i64 = -9223372036854775808 := by rfl
  have hmax : IntKind.max .i64 = 9223372036854775807 := by rfl
  rw [if_pos (by rw [hmin, hmax]; omega)]
theorem flt0 : flt 0 = 0 := by kernel_rfl
theorem flt1 : flt 1 = 4607182418800017408 := by kernel_rfl
/-- Two counts as one number. -/
def cpx (a b : Nat) : Value := .complex .f64 (flt a) (flt b)
section
variable {P : Program} {k : Kont} {e : Env} {w : World} {l : List GOp} {d : Option Nat}
theorem cadd_rule {x y : Operand} {t yt ty : TypeId} {a b c f : Nat} (hx : ev e x = cpx a b) (hy : ev e y = cpx c f) (ha : a < fltTop) (hb : b < fltTop) (hc : c ≤ 1) (hf : f ≤ 1)
    (h : R (symOps P l k (updO e d (cpx (a + c) (b + f))) w)) : R (symOps P (⟨d, .hard (H (.binOp .add t x y yt) ty), none⟩ :: l) k e w) := by
  refine hard_rule ?_ h
  have h1 : cSumBits .add .f64 (flt a) (flt b) (flt c) (flt f) = some (flt (a + c), flt (b + f)) := by
    simp [cSumBits, flt_add ha hc, flt_add hb hf]
  have h2 := run_complex_sum (P := P) w .add (.inl rfl) t .f64 _ _ _ _ _ _ h1
  simp [execOp, H, hx, hy, cpx, h2, eqGuard]
theorem real_rule {x : Operand} {ts : Array TypeId} {ty : TypeId} {a b : Nat} (hx : ev e x = cpx a b) (h : R (symOps P l k (updO e d (.float .f64 (flt a))) w)) :
    R (symOps P (⟨d, .hard (H (.call { callee := .builtin .real, args := #[x], argTypes := ts }) ty), none⟩ :: l) k e w) :=
  hard_rule (run_builtin (vs := [cpx a b]) (by simp [hx]) (fun cs => by simp [builtin, cpx, Go.run_real, Go.run_imag])) h
theorem imag_rule {x : Operand} {ts : Array TypeId} {ty : TypeId} {a b : Nat} (hx : ev e x = cpx a b) (h : R (symOps P l k (updO e d (.float .f64 (flt b))) w)) :
    R (symOps P (⟨d, .hard (H (.call { callee := .builtin .imag, args := #[x], argTypes := ts }) ty), none⟩ :: l) k e w) :=
  hard_rule (run_builtin (vs := [cpx a b]) (by simp [hx]) (fun cs => by simp [builtin, cpx, Go.run_real, Go.run_imag])) h
theorem toint_rule {x : Operand} {s t ty : TypeId} {a : Nat} (hs : (P.underlying s).isSome = true) (ht : P.underlying t = some (.int .i64)) (hx : ev e x = .float .f64 (flt a)) (ha : a < fltTop) (h : R (symOps P l k (updO e d (.int .i64 a)) w)) :
    R (symOps P (⟨d, .hard (H (.convert s t x) ty), none⟩ :: l) k e w) := by
  refine hard_rule ?_ h
  have h2 := run_convert_float_int (P := P) w s t .f64 .i64 (flt a) a hs ht (flt_int ha)
  simp only [execOp, H, hx, Sem.run_bind, h2, Result.andThen_ok]; rfl
end
end Go.Proofs.YtienelpepioggaaGreat

/- How many pages and inodes are free: two counts as one complex number. -/
namespace Go.Proofs.YtienelpepioggaaGreat
open Go
set_option linter.unusedSimpArgs false
open Go.RowKit (intOf)
theorem cpx0 : Value.complex .f64 0 0 = cpx 0 0 := by rw [cpx, flt0]
theorem cpx10 : Value.complex .f64 4607182418800017408 0 = cpx 1 0 := by rw [cpx, flt0, flt1]
theorem cpx01 : Value.complex .f64 0 4607182418800017408 = cpx 0 1 := by rw [cpx, flt0, flt1]
theorem underMC : Tryz.prog.underlying 126 = some (.map 3 81) := by kernel_rfl
theorem ins_rule {k : Kont} {e : Env} {w : World} {l : List GOp} {d : Option Nat} {t ty : TypeId} {m x v : Operand} (h : R (symOps Tryz.prog (⟨d, .hard (H (.mapUpdate t m x v) ty), none⟩ :: l) k e w)) : R (symOps Tryz.prog (⟨d, .hard (H (.insert t m x v) ty), none⟩ :: l) k e w) := h
theorem Ext.onIter {μ : Nat} {G : Gh} {w w' : World} {r m' clk lim : Nat} {sn : Array Nat} (hr : w.heap[r]? = some (.mapIter (some m') clk sn lim)) (hk : Keep (fun b => b = r) w w') (ho : G.own r = μ) : Ext (fun c => c = μ) G w G w' :=
  .one hk (fun _ => ho) (fun _ i v _ hc => by simp [World.cell?, hr] at hc)
def bothE : Array MapEntry := #[⟨.int .i64 2, cpx 1 0, 0⟩, ⟨.int .i64 1, cpx 0 1, 1⟩]
theorem bothE_ok : MapOk bothE.toList 2 := ⟨by simp [bothE], by simp [bothE], by simp [bothE]⟩
theorem bothE_mem {y : MapEntry} (h : y ∈ bothE.toList) : y = ⟨.int .i64 2, cpx 1 0, 0⟩ ∨ y = ⟨.int .i64 1, cpx 0 1, 1⟩ := by simpa [bothE] using h
theorem freeN_bits {b : List UInt8} {n i : Nat} (hi : i < n) : freeN ((bitsOf b n).take (i + 1)) = freeN ((bitsOf b n).take i) + if bitB b i then 0 else 1 := freeN_take (bitsOf_get hi)
section
variable {G G' : Gh} {κ μ m p lq came k : Nat} {w w' : World} {c : Csh} {P I : List Bool}
set_option maxHeartbeats 4000000 in
theorem both_spec (h : MapAt G κ μ w m p lq came c P I) (hP : P.length < 5000) :
    Calls Tryz.prog 29 #[.pointer (some ⟨m, 0, none⟩)] w (Ret fun v w' => v = cpx (freeN P) (freeN I) ∧ ∃ G', Ext (fun x => x = μ) G w G' w' ∧ MapC G' κ μ w' m p lq came c I.length) := by
  obtain ⟨f1, f2, f3, f4, f5, f6, f7, f8⟩ := h.facts
  have hne := h.1.cache.ne
  have hn6 := h.1.ne
  apply enter29
  apply R_in
  simp (maxSteps := 1000000) (disch := omega) only [↓sy1, sy2, sy3, readOK, sy5, sy6, Nat.reduceEqDiff, ↓reduceIte, sy7, sy8, sy9, sya, oneOf, syb, syc, Nat.reduceAdd, Nat.reduceMul, syd, sye, syf, syg, syh, reduceCtorEq, F29]
  have hg0 : Grow w (w.alloc (.map #[] 0)) := (Keep.refl _ _).alloc _
  have hb0 := heap_alloc_new w (.map #[] 0)
  generalize w.alloc (.map #[] 0) = w0 at hg0 hb0 ⊢
  have hK : MapOk (#[] : Array MapEntry).toList 0 := ⟨by simp, by simp, by simp⟩
  refine ins_rule (put_rule (kk := .i64) (n := 2) (v := .complex .f64 4607182418800017408 0) (by simp only [upd_at, Nat.reduceEqDiff, reduceIte, ev_tmp, ev_const, List.map_cons, List.map_nil]) (by simp only [upd_at, Nat.reduceEqDiff, reduceIte, ev_tmp, ev_const, List.map_cons, List.map_nil]) (by simp only [upd_at, Nat.reduceEqDiff, reduceIte, ev_tmp, ev_const, List.map_cons, List.map_nil]) underMC underI hb0 (fun y hy => by simp at hy) (fun _ w1 hk1 hb1 => ?_) (fun j y hj _ => by simp at hj))
  simp (maxSteps := 1000000) (disch := omega) only [↓sy1, sy2, sy3, readOK, sy5, sy6, Nat.reduceEqDiff, ↓reduceIte, sy7, sy8, sy9, sya, oneOf, syb, syc, Nat.reduceAdd, Nat.reduceMul, syd, sye, syf, syg, syh, reduceCtorEq]
  refine ins_rule (put_rule (kk := .i64) (n := 1) (v := .complex .f64 0 4607182418800017408) (by simp only [upd_at, Nat.reduceEqDiff, reduceIte, ev_tmp, ev_const, List.map_cons, List.map_nil]) (by simp only [upd_at, Nat.reduceEqDiff, reduceIte, ev_tmp, ev_const, List.map_cons, List.map_nil]) (by simp only [upd_at, Nat.reduceEqDiff, reduceIte, ev_tmp, ev_const, List.map_cons, List.map_nil]) underMC underI hb1 (fun y hy => by simp at hy; subst hy; exact ⟨2, rfl⟩) (fun _ w2 hk2 hb2 => ?_) (fun j y hj hy => by
    have := List.mem_of_getElem? hj
    simp at this; subst this
    have := (Value.int.inj hy).2; omega))
  have hb2 : w2.heap[w.heap.size]? = some (.map bothE 2) := by
    rw [hb2]; simp [bothE, cpx10, cpx01]
  have hg2 : Grow w w2 := (hg0.then hk1 (fun b hb hh => by omega)).then hk2 (fun b hb hh => by omega)
  clear hk1 hb1 hk2 hb0 hg0 hK
  simp (maxSteps := 1000000) (disch := omega) only [↓sy1, sy2, sy3, readOK, sy5, sy6, Nat.reduceEqDiff, ↓reduceIte, sy7, sy8, sy9, sya, oneOf, syb, syc, Nat.reduceAdd, Nat.reduceMul, syd, sye, syf, syg, syh, reduceCtorEq]
  refine range_rule (m := w.heap.size) (by simp only [upd_at, Nat.reduceEqDiff, reduceIte, ev_tmp, ev_const, List.map_cons, List.map_nil]) underMC hb2 ?_
  have hg3 : Grow w2 (w2.alloc (.mapIter (some w.heap.size) 2 #[] 2)) := (Keep.refl _ _).alloc _
  have hr3 := heap_alloc_new w2 (.mapIter (some w.heap.size) 2 #[] 2)
  have hrw : w.heap.size < w2.heap.size := (Array.getElem?_eq_some_iff.1 hb2).1
  have hr3s : (w2.alloc (.mapIter (some w.heap.size) 2 #[] 2)).heap.size = w2.heap.size + 1 := by simp
  generalize w2.alloc (.mapIter (some w.heap.size) 2 #[] 2) = w3 at hg3 hr3 hr3s ⊢
  generalize w2.heap.size = r at hr3 hrw hr3s ⊢
  have hb3 := hg3.gheap hb2
  have hx3 : Ext0 G w (G.upto w.heap.size (fun _ => 6) (fun _ => 0)) w3 := .upto (hg2.trans hg3) _ _
  have h3 := h.1.ext hx3 id id id
  have hom : (G.upto w.heap.size (fun _ => 6) (fun _ => 0)).own w.heap.size = 6 ∧ (G.upto w.heap.size (fun _ => 6) (fun _ => 0)).own r = 6 := ⟨(upto_own (Nat.le_refl _)).1, (upto_own (by omega)).1⟩
  generalize (G.upto w.heap.size (fun _ => 6) (fun _ => 0)) = G3 at hx3 h3 hom
  simp (maxSteps := 1000000) (disch := omega) only [↓sy1, sy2, sy3, readOK, sy5, sy6, Nat.reduceEqDiff, ↓reduceIte, sy7, sy8, sy9, sya, oneOf, syb, syc, Nat.reduceAdd, Nat.reduceMul, syd, sye, syf, syg, syh, reduceCtorEq]
  refine mloop_rule (r := r) (m := w.heap.size) (clk := 2) (es := bothE) (fun seen e w' => ∃ G', e 0 = .pointer (some ⟨m, 0, none⟩) ∧ e 10 = .pointer (some ⟨r, 0, none⟩) ∧ e 3 = cpx (if 0 ∈ seen then freeN P else 0) (if 1 ∈ seen then freeN I else 0) ∧
      MapC G' κ μ w' m p lq came c I.length ∧ Ext (fun x => x = μ) G w G' w' ∧ w'.heap[w.heap.size]? = some (.map bothE 2) ∧ G'.own w.heap.size = 6 ∧ G'.own r = 6 ∧ r < w'.heap.size)
    hr3 ⟨G3, by simp [upd, updO, ev], by simp [upd, updO, ev], by simp [upd, updO, ev, cpx0], h3, hx3.mono (fun _ h => h.elim), hb3, hom.1, hom.2, by omega⟩ ?_
  rintro seen e w4 hr4 ⟨G4, e0, e10, e3, h4, hx4, hb4, ho4, hor4, hr4s⟩
  simp (maxSteps := 1000000) (disch := omega) only [↓sy1, sy2, sy3, readOK, sy5, sy6, Nat.reduceEqDiff, ↓reduceIte, sy7, sy8, sy9, sya, oneOf, syb, syc, Nat.reduceAdd, Nat.reduceMul, syd, sye, syf, syg, syh, reduceCtorEq, F29_L1, e0, e10, e3]
  refine next_rule (by simp only [upd_at, Nat.reduceEqDiff, reduceIte, ev_tmp, ev_const, List.map_cons, List.map_nil, e10]) hr4 hb4 bothE_ok (fun hend => ?_) (fun y hy hyn w5 hk5 hr5 => ?_)
  · have s0 : 0 ∈ seen := hend ⟨.int .i64 2, cpx 1 0, 0⟩ (by simp [bothE])
    have s1 : 1 ∈ seen := hend ⟨.int .i64 1, cpx 0 1, 1⟩ (by simp [bothE])
    rw [if_pos s0, if_pos s1] at e3
    simp (maxSteps := 1000000) (disch := omega) only [↓sy1, sy2, sy3, readOK, sy5, sy6, Nat.reduceEqDiff, ↓reduceIte, sy7, sy8, sy9, sya, oneOf, syb, syc, Nat.reduceAdd, Nat.reduceMul, syd, sye, syf, syg, syh, reduceCtorEq, e3]
    exact R_out ⟨G4, hx4, h4⟩
  have hb5 : w5.heap[w.heap.size]? = some (.map bothE 2) := hk5.heap hb4 (by omega)
  have h5 : MapC G4 κ μ w5 m p lq came c I.length := h4.ext (K := fun x => x = 6) (.onIter hr4 hk5 hor4) hn6.1 hn6.2 (by omega)
  have hx5 : Ext (fun x => x = μ) G w G4 w5 := hx4.then hk5 (by omega)
  simp (maxSteps := 1000000) (disch := omega) only [↓sy1, sy2, sy3, readOK, sy5, sy6, Nat.reduceEqDiff, ↓reduceIte, sy7, sy8, sy9, sya, oneOf, syb, syc, Nat.reduceAdd, Nat.reduceMul, syd, sye, syf, syg, syh, reduceCtorEq]
  refine entry_rule (by simp only [upd_at, Nat.reduceEqDiff, reduceIte, ev_tmp, ev_const, List.map_cons, List.map_nil, e10]) hr5 hb5 bothE_ok hy ?_
  generalize hA : (if 0 ∈ seen then freeN P else 0) = A at e3 ⊢
  generalize hB : (if 1 ∈ seen then freeN I else 0) = B at e3 ⊢
  have hfP := freeN_le P
  have hfI := freeN_le I
  obtain ⟨pg, L, x, yy, hpg, hL, hx1, hy1, hyk, hyv, hAx, hBy⟩ : ∃ (pg : Nat) (L : List Bool) (x yy : Nat), (pg = 1 ∨ pg = 2) ∧ bitsOf (c.page pg) (nbits c I.length pg) = L ∧ x ≤ 1 ∧ yy ≤ 1 ∧ y.key = .int .i64 pg ∧ y.val = cpx x yy ∧
      A + x * freeN L = (if 0 ∈ seen ++ [y.born] then freeN P else 0) ∧ B + yy * freeN L = (if 1 ∈ seen ++ [y.born] then freeN I else 0) := by
    rcases bothE_mem hy with rfl | rfl
    · refine ⟨2, P, 1, 0, .inr rfl, h.2.p, by omega, by omega, rfl, rfl, ?_, ?_⟩
      · rw [← hA, if_neg hyn, if_pos (by simp)]; omega
      · rw [← hB, Nat.zero_mul, Nat.add_zero]; simp
    · refine ⟨1, I, 0, 1, .inl rfl, h.2.i, by omega, by omega, rfl, rfl, ?_, ?_⟩
      · rw [← hA, Nat.zero_mul, Nat.add_zero]; simp
      · rw [← hB, if_neg hyn, if_pos (by simp)]; omega
  have hA' : A + x * freeN L < 5000 := by rw [hAx]; split <;> omega
  have hB' : B + yy * freeN L < 5000 := by rw [hBy]; split <;> omega
  have hLl : L.length = nbits c I.length pg := by rw [← hL, bitsOf_length]
  have hnb : nbits c I.length pg ≤ 4096 := by
    unfold nbits; split <;> omega
  have hpl : (c.page pg).length = 512 := by rcases hpg with rfl | rfl <;> assumption
  simp (maxSteps := 1000000) (disch := omega) only [↓sy1, sy2, sy3, readOK, sy5, sy6, Nat.reduceEqDiff, ↓reduceIte, sy7, sy8, sy9, sya, oneOf, syb, syc, Nat.reduceAdd, Nat.reduceMul, syd, sye, syf, syg, syh, reduceCtorEq, hyk, hyv, e0]
  refine call0 (mread_spec h5 hpg) ?_
  rintro _ w6 ⟨u, G6, rfl, hu, hub, h6, hx6⟩
  have huc := (Has.own hu).isCell
  have hg7 : Grow w6 (w6.alloc (.cells (Value.agg #[.slice none 0 0, .int .i64 0]).cells 128)) := (Keep.refl _ _).alloc _
  have hb7 := heap_alloc_new w6 (.cells (Value.agg #[.slice none 0 0, .int .i64 0]).cells 128)
  simp (maxSteps := 1000000) (disch := omega) only [↓sy1, sy2, sy3, readOK, sy5, sy6, Nat.reduceEqDiff, ↓reduceIte, sy7, sy8, sy9, sya, oneOf, syb, syc, Nat.reduceAdd, Nat.reduceMul, syd, sye, syf, syg, syh, reduceCtorEq]
  rw [agg2_cells (x := .slice none 0 0) (y := .int .i64 0) rfl rfl] at hg7 hb7 ⊢
  generalize w6.alloc (.cells #[.slice none 0 0, .int .i64 0] 128) = w7 at hg7 hb7 ⊢
  obtain ⟨w8, hst, hb8, hk8⟩ := stn2 (x := u) (y := .int .i64 (nbits c I.length pg)) hb7 huc rfl
  have hg8 : Grow w6 w8 := hg7.then hk8 (fun b hb hh => by omega)
  have hc8 : w8.cell? ⟨w6.heap.size, 1, none⟩ = some (.int .i64 (nbits c I.length pg)) := by rw [cell_block hb8]; rfl
  have hu8 := own_grow hu hg8
  have hr5s : r < w5.heap.size := (Array.getElem?_eq_some_iff.1 hr5).1
  have hm5s : w.heap.size < w5.heap.size := (Array.getElem?_eq_some_iff.1 hb5).1
  have hr6 := hx6.heap hr5 (by rw [hor4]; exact fun hh => hn6.2 hh.symm)
  have hb6 := hx6.heap hb5 (by rw [ho4]; exact fun hh => hn6.2 hh.symm)
  have ho6 : G6.own w.heap.size = 6 ∧ G6.own r = 6 := by rw [hx6.own _ hm5s, hx6.own _ hr5s]; exact ⟨ho4, hor4⟩
  simp (maxSteps := 1000000) (disch := omega) only [↓sy1, sy2, sy3, readOK, sy5, sy6, Nat.reduceEqDiff, ↓reduceIte, sy7, sy8, sy9, sya, oneOf, syb, syc, Nat.reduceAdd, Nat.reduceMul, syd, sye, syf, syg, syh, reduceCtorEq, hst, hc8]
  refine loop_rule (fun e w' => ∃ i : Nat, i ≤ nbits c I.length pg ∧ e 21 = .int .i64 i ∧ e 20 = .int .i64 (nbits c I.length pg) ∧ e 6 = .pointer (some ⟨w6.heap.size, 0, none⟩) ∧ e 5 = cpx x yy ∧ e 3 = cpx (A + x * freeN (L.take i)) (B + yy * freeN (L.take i)) ∧ e 0 = .pointer (some ⟨m, 0, none⟩) ∧ e 10 = .pointer (some ⟨r, 0, none⟩) ∧ Grow w8 w') (fun e _ => nbits c I.length pg - (intOf (e 21)).toNat)
    ⟨0, by omega, by simp [upd, updO, ev], by simp [upd, updO, ev], by simp [upd, updO, ev], by simp [upd, updO, ev, hyv], by simp [upd, updO, ev, e3, freeN], by simp [upd, updO, ev, e0], by simp [upd, updO, ev, e10], Keep.refl _ _⟩ ?_
  clear e0 e10 e3
  rintro e w9 ⟨i, hi, e21, e20, e6, e5, e3, e0, e10, hg9⟩
  have hl9 : loadN w9 ⟨w6.heap.size, 0, none⟩ 0 2 = some [u, .int .i64 (nbits c I.length pg)] := loadN2 (by rw [cell_block (hg9.gheap hb8)]; rfl) (by rw [cell_block (hg9.gheap hb8)]; rfl)
  by_cases hlt : i < nbits c I.length pg
  · simp (maxSteps := 1000000) (disch := omega) only [↓sy1, sy2, sy3, readOK, sy5, sy6, Nat.reduceEqDiff, ↓reduceIte, sy7, sy8, sy9, sya, oneOf, syb, syc, Nat.reduceAdd, Nat.reduceMul, syd, sye, syf, syg, syh, reduceCtorEq, F29_L0, e21, e20, e6, e5, e3, e0, e10, Int.ofNat_lt, hlt, decide_true, hl9]
    refine call0 (bat_spec (b := c.page pg) (i := i) (Has.own (own_grow hu8 hg9)) (by omega) rfl (by omega)) ?_
    rintro _ w10 ⟨rfl, hg10⟩
    have hstep : freeN (L.take (i + 1)) = freeN (L.take i) + if bitB (c.page pg) i then 0 else 1 := by rw [← hL]; exact freeN_bits hlt
    cases hb : bitB (c.page pg) i with
    | true =>
      rw [hb, if_pos rfl, Nat.add_zero] at hstep
      simp (maxSteps := 1000000) (disch := omega) only [↓sy1, sy2, sy3, readOK, sy5, sy6, Nat.reduceEqDiff, ↓reduceIte, sy7, sy8, sy9, sya, oneOf, syb, syc, Nat.reduceAdd, Nat.reduceMul, syd, sye, syf, syg, syh, reduceCtorEq, e21, e20, e6, e5, e3, e0, e10]
      exact R_out ⟨⟨i + 1, by omega, rfl, by rw [hstep]; rfl, hg9.trans hg10⟩, by simp only [intOf]; omega⟩
    | false =>
      rw [hb, if_neg (by simp)] at hstep
      have hle : freeN (L.take (i + 1)) ≤ freeN L := by
        unfold freeN; exact List.Sublist.count_le false (List.take_sublist _ _)
      have hxa := Nat.mul_le_mul_left x hle
      have hya := Nat.mul_le_mul_left yy hle
      rw [hstep, Nat.mul_add, Nat.mul_one] at hxa hya
      simp (maxSteps := 1000000) (disch := omega) only [↓sy1, sy2, sy3, readOK, sy5, sy6, Nat.reduceEqDiff, ↓reduceIte, sy7, sy8, sy9, sya, oneOf, syb, syc, Nat.reduceAdd, Nat.reduceMul, syd, sye, syf, syg, syh, reduceCtorEq, e21, e20, e6, e5, e3, e0, e10]
      refine cadd_rule (a := A + x * freeN (L.take i)) (b := B + yy * freeN (L.take i)) (c := x) (f := yy) (by simp only [upd_at, Nat.reduceEqDiff, reduceIte, ev_tmp, ev_const, List.map_cons, List.map_nil]) (by simp only [upd_at, Nat.reduceEqDiff, reduceIte, ev_tmp, ev_const, List.map_cons, List.map_nil]) (by unfold fltTop; omega) (by unfold fltTop; omega) hx1 hy1 ?_
      simp (maxSteps := 1000000) (disch := omega) only [↓sy1, sy2, sy3, readOK, sy5, sy6, Nat.reduceEqDiff, ↓reduceIte, sy7, sy8, sy9, sya, oneOf, syb, syc, Nat.reduceAdd, Nat.reduceMul, syd, sye, syf, syg, syh, reduceCtorEq, e21, e20, e6, e5, e3, e0, e10]
      refine R_out ⟨⟨i + 1, by omega, rfl, ?_, hg9.trans hg10⟩, by simp only [intOf]; omega⟩
      rw [hstep, Nat.mul_add, Nat.mul_add, Nat.mul_one, Nat.mul_one, Nat.add_assoc, Nat.add_assoc]
  · have hie : i = L.length := by omega
    rw [hie, List.take_length, hAx, hBy] at e3
    simp (maxSteps := 1000000) (disch := omega) only [↓sy1, sy2, sy3, readOK, sy5, sy6, Nat.reduceEqDiff, ↓reduceIte, sy7, sy8, sy9, sya, oneOf, syb, syc, Nat.reduceAdd, Nat.reduceMul, syd, sye, syf, syg, syh, reduceCtorEq, F29_L0, e21, e20, e6, e5, e0, e10, Int.ofNat_lt, hlt, decide_false]
    have hg69 : Grow w6 w9 := hg8.trans hg9
    have hr9 := hg69.gheap hr6
    refine R_out (MStep.mk hr4 hy hyn hr9 ⟨G6, e0, e10, e3, h6.grow hg69, (hx5.trans hx6).trans (.grow hg69), hg69.gheap hb6, ho6.1, ho6.2, (Array.getElem?_eq_some_iff.1 hr9).1⟩)
theorem free_spec (h : MapAt G κ μ w m p lq came c P I) (hP : P.length < 5000) :
    Calls Tryz.prog 10 #[.pointer (some ⟨m, 0, none⟩)] w (Ret fun v w' => v = .tuple #[.int .i64 (freeN P), .int .i64 (freeN I)] ∧ ∃ G', Ext (fun x => x = μ) G w G' w' ∧ MapAt G' κ μ w' m p lq came c P I) := by
  have hfP := freeN_le P
  have hfI := freeN_le I
  obtain ⟨f1, f2, f3, f4, f5, f6, f7, f8⟩ := h.facts
  apply enter10
  apply R_in
  simp (maxSteps := 1000000) (disch := omega) only [↓sy1, sy2, sy3, readOK, sy5, sy6, Nat.reduceEqDiff, ↓reduceIte, sy7, sy8, sy9, sya, oneOf, syb, syc, Nat.reduceAdd, Nat.reduceMul, syd, sye, syf, syg, syh, reduceCtorEq, F10]
  refine call0 (both_spec h hP) ?_
  rintro _ w1 ⟨rfl, G1, hx1, h1⟩
  simp (maxSteps := 1000000) (disch := omega) only [↓sy1, sy2, sy3, readOK, sy5, sy6, Nat.reduceEqDiff, ↓reduceIte, sy7, sy8, sy9, sya, oneOf, syb, syc, Nat.reduceAdd, Nat.reduceMul, syd, sye, syf, syg, syh, reduceCtorEq]
  have hfl : (Tryz.prog.underlying 83).isSome = true := by kernel_rfl
  refine real_rule (a := freeN P) (b := freeN I) (by simp only [upd_at, Nat.reduceEqDiff, reduceIte, ev_tmp, ev_const, List.map_cons, List.map_nil]) ?_
  simp (maxSteps := 1000000) (disch := omega) only [↓sy1, sy2, sy3, readOK, sy5, sy6, Nat.reduceEqDiff, ↓reduceIte, sy7, sy8, sy9, sya, oneOf, syb, syc, Nat.reduceAdd, Nat.reduceMul, syd, sye, syf, syg, syh, reduceCtorEq]
  refine toint_rule (a := freeN P) hfl underI (by simp only [upd_at, Nat.reduceEqDiff, reduceIte, ev_tmp, ev_const, List.map_cons, List.map_nil]) (by unfold fltTop; omega) ?_
  simp (maxSteps := 1000000) (disch := omega) only [↓sy1, sy2, sy3, readOK, sy5, sy6, Nat.reduceEqDiff, ↓reduceIte, sy7, sy8, sy9, sya, oneOf, syb, syc, Nat.reduceAdd, Nat.reduceMul, syd, sye, syf, syg, syh, reduceCtorEq]
  refine imag_rule (a := freeN P) (b := freeN I) (by simp only [upd_at, Nat.reduceEqDiff, reduceIte, ev_tmp, ev_const, List.map_cons, List.map_nil]) ?_
  simp (maxSteps := 1000000) (disch := omega) only [↓sy1, sy2, sy3, readOK, sy5, sy6, Nat.reduceEqDiff, ↓reduceIte, sy7, sy8, sy9, sya, oneOf, syb, syc, Nat.reduceAdd, Nat.reduceMul, syd, sye, syf, syg, syh, reduceCtorEq]
  refine toint_rule (a := freeN I) hfl underI (by simp only [upd_at, Nat.reduceEqDiff, reduceIte, ev_tmp, ev_const, List.map_cons, List.map_nil]) (by unfold fltTop; omega) ?_
  simp (maxSteps := 1000000) (disch := omega) only [↓sy1, sy2, sy3, readOK, sy5, sy6, Nat.reduceEqDiff, ↓reduceIte, sy7, sy8, sy9, sya, oneOf, syb, syc, Nat.reduceAdd, Nat.reduceMul, syd, sye, syf, syg, syh, reduceCtorEq]
  exact R_out ⟨G1, hx1, h1, h.2⟩
end
end Go.Proofs.YtienelpepioggaaGreat

/- bytes.Equal, slices.EqualFunc; two disks that are read alike. -/
namespace Go.Proofs.YtienelpepioggaaGreat
open Go
set_option linter.unusedSimpArgs false
open Go.RowKit (intOf)
section
variable {P : Program} {k : Kont} {e : Env} {w : World} {l : List GOp} {d : Option Nat}
end
end Go.Proofs.YtienelpepioggaaGreat

/- The superblock; how many inodes may be; numbers. -/
namespace Go.Proofs.YtienelpepioggaaGreat
open Go
set_option linter.unusedSimpArgs false
open Go.RowKit (intOf)
def dun0 : List UInt8 := [68, 85, 78, 49] ++ List.replicate 508 0
def dunV : List Value := [.int .u8 68, .int .u8 85, .int .u8 78, .int .u8 49]
theorem dunV_cells : ((ByteArray.mk #[68, 85, 78, 49] : ByteArray).extract 0 4).data.map (fun b => Value.int .u8 (b.toNat : Int)) = dunV.toArray := by kernel_rfl
theorem dunV_len : (Builtin.lenOf (.string (ByteArray.mk #[68, 85, 78, 49]))) = pure 4 := by rfl
theorem dun_rule {k : Kont} {e : Env} {w : World} {l : List GOp} {d : Option Nat} {x : Operand} {v : Value} {B : Nat} (ho : w.ownsRow B 5 1 v 512 (bs zsec)) (hx : ev e x = v)
    (hh : ∀ w', Keep (fun b => v.ownBlock = some b) w w' → w'.ownsRow B 5 1 v 512 (bs dun0) → R (symOps Tryz.prog l k (updO e d (.int .i64 4)) w')) :
    R (symOps Tryz.prog (⟨d, .hard (H (.call { callee := .builtin .copy, args := #[x, .const (.string (ByteArray.mk #[68, 85, 78, 49]))], argTypes := #[46, 9] }) 3), none⟩ :: l) k e w) := by
  obtain ⟨h0, ⟨_, h2⟩ | ⟨g, cap, cur, rfl, h2, h3, h4, h5, h6, h7⟩⟩ := ho
  · omega
  have hdl : dunV.length = 4 := rfl
  have hst := run_storeCells_at Tryz.prog g 0 5 dunV 0 cur w h3 (by rw [hdl]; omega) (by simp [Value.oneCell', dunV])
  have hrr := setRow_heap w g cur ((List.take (0 + 0) cur.toList ++ dunV ++ List.drop (0 + 0 + dunV.length) cur.toList).toArray) 5 (0, 0) h3
  have hkk : Keep (fun b => b = g) w (w.setRow g ((List.take (0 + 0) cur.toList ++ dunV ++ List.drop (0 + 0 + dunV.length) cur.toList).toArray)) := ⟨rfl, rfl, rfl, by simp, fun k _ hk => setRow_other w g k _ hk⟩
  generalize w.setRow g ((List.take (0 + 0) cur.toList ++ dunV ++ List.drop (0 + 0 + dunV.length) cur.toList).toArray) = w' at hst hrr hkk
  obtain ⟨i, hi, hz, hsz, hby⟩ := elemB.hi
  have hu := elemB.ht
  refine hard_rule (run_builtin (vs := [.slice (some ⟨g, 0, none⟩) 512 cap, .string (ByteArray.mk #[68, 85, 78, 49])]) (by simp [hx, ev_const]) (fun cs => ?_)) (hh w' (hkk.mono (fun b _ hb => by subst hb; rfl)) ⟨h0, .inr ⟨g, cap, _, rfl, h2, hrr, h4, h5, ?_, ?_⟩⟩)
  · have hf : (Builtin.firstCells 1 4 (.string (ByteArray.mk #[68, 85, 78, 49]))).run Tryz.prog w = .ok dunV.toArray w := by rw [Builtin.firstCells, dunV_cells]; rfl
    simp only [List.toArray, builtin] at *
    simp [Builtin.copy_, run_underlying hu, dunV_len, sizeOf, typeInfo, hi, hsz, show Nat.min 4 512 = 4 from rfl, hf, hst, goInt]
  · simp [hdl]; omega
  · have h7' : cur.toList.take 512 = bs zsec := by simpa using h7
    have h8 : (cur.toList.drop 4).take 508 = List.replicate 508 (.int .u8 0) := by
      have h9 := congrArg (List.drop 4) h7'
      rw [List.drop_take, bs_zsec] at h9
      rw [List.drop_replicate] at h9
      exact h9
    have hb : bs dun0 = dunV ++ List.replicate 508 (.int .u8 0) := by
      simp only [dun0, bs, List.map_append, List.map_replicate]; rfl
    rw [hb, ← h8]
    have h10 : List.take 512 dunV = dunV := List.take_of_length_le (by rw [hdl]; omega)
    simp [hdl, List.take_append, h10]
/-- The superblock's bytes, one by one. -/
def supV (pages inodes : Nat) : List UInt8 := super4 pages ++ super4 inodes
def supAt (pages inodes j : Nat) : List UInt8 := [68, 85, 78, 49] ++ (supV pages inodes).take j ++ List.replicate (508 - j) 0
theorem supV_length (a b : Nat) : (supV a b).length = 8 := rfl
theorem supAt_zero (a b : Nat) : supAt a b 0 = dun0 := rfl
theorem supAt_end (a b : Nat) : supAt a b 8 = superB a b := by
  unfold supAt superB
  rw [show (supV a b).take 8 = supV a b from List.take_length (l := supV a b), supV]
  exact congrArg (· ++ List.replicate 500 (0 : UInt8)) (List.append_assoc [68, 85, 78, 49] (super4 a) (super4 b)).symm
theorem supAt_set {a b j : Nat} (h : j < 8) : (supAt a b j).set (4 + j) ((supV a b).getD j 0) = supAt a b (j + 1) := by
  have hl := supV_length a b
  have hg : (supV a b)[j]? = some ((supV a b).getD j 0) := by rw [List.getD_eq_getElem?_getD, List.getElem?_eq_getElem (by omega)]; rfl
  have hlt : ((supV a b).take j).length = j := by rw [List.length_take]; omega
  unfold supAt
  rw [show 508 - j = (508 - (j + 1)) + 1 from by omega, List.replicate_succ, List.take_add_one, hg]
  have hidx : 4 + j - ([68, 85, 78, 49] ++ (supV a b).take j).length = 0 := by rw [List.length_append, hlt]; simp
  rw [List.set_append_right _ _ (by rw [List.length_append, hlt]; simp), hidx, List.set_cons_zero]
  simp only [List.append_assoc, List.cons_append, List.nil_append, Option.toList_some]
theorem shr_n {n s : Nat} (hn : n < 9223372036854775808) (hs : s ≤ 24) : binV .shr (.int .i64 (n : Int)) (.int .i64 (s : Int)) = some (.int .i64 ((n / 2 ^ s : Nat) : Int)) := by
  simp only [binV]
  rw [if_neg (by omega), show min ((s : Int).toNat) IntKind.i64.bits = s from by simp [IntKind.bits]; omega]
  have : ((n : Int).fdiv (2 ^ s)) = ((n / 2 ^ s : Nat) : Int) := by
    rw [show ((2 : Int) ^ s) = ((2 ^ s : Nat) : Int) from by simp, Int.ofNat_fdiv]
  rw [this]
theorem sup_val {a b i k : Nat} (hi : i < 2) (hk : k < 4) : (supV a b).getD (4 * i + k) 0 = UInt8.ofNat ((if i = 0 then a else b) / 2 ^ (24 - 8 * k)) := by
  match i, k, hi, hk with
  | 0, 0, _, _ => rfl
  | 0, 1, _, _ => rfl
  | 0, 2, _, _ => rfl
  | 0, 3, _, _ => exact congrArg UInt8.ofNat (by simp)
  | 1, 0, _, _ => rfl
  | 1, 1, _, _ => rfl
  | 1, 2, _, _ => rfl
  | 1, 3, _, _ => exact congrArg UInt8.ofNat (by simp)
set_option maxHeartbeats 2000000 in
theorem super_spec {w : World} {a b : Nat} (ha : a < 65536) (hb : b < 65536) :
    Calls Tryz.prog 23 #[.int .i64 a, .int .i64 b] w (Ret fun v w' => w'.ownsRow w.heap.size 5 1 v 512 (bs (superB a b)) ∧ Grow w w') := by
  apply enter23
  apply R_in
  simp (maxSteps := 1000000) (disch := omega) only [↓sy1, sy2, sy3, readOK, sy5, sy6, Nat.reduceEqDiff, ↓reduceIte, sy7, sy8, sy9, sya, oneOf, syb, syc, Nat.reduceAdd, Nat.reduceMul, syd, sye, syf, syg, syh, reduceCtorEq, F23]
  refine mkz_rule (fun zv w1 hg1 hz => ?_)
  simp (maxSteps := 1000000) (disch := omega) only [↓sy1, sy2, sy3, readOK, sy5, sy6, Nat.reduceEqDiff, ↓reduceIte, sy7, sy8, sy9, sya, oneOf, syb, syc, Nat.reduceAdd, Nat.reduceMul, syd, sye, syf, syg, syh, reduceCtorEq]
  refine dun_rule hz (by simp only [upd_at, Nat.reduceEqDiff, reduceIte, ev_tmp, ev_const, List.map_cons, List.map_nil]) (fun w2 hk2 ho2 => ?_)
  have hzb : ∀ b, zv.ownBlock = some b → w.heap.size ≤ b := fun b hb => (World.ownsRow.lt hz b hb).1
  have hg2 : Grow w w2 := hg1.then hk2 (fun b hb hh => by have := hzb b hh; omega)
  simp (maxSteps := 1000000) (disch := omega) only [↓sy1, sy2, sy3, readOK, sy5, sy6, Nat.reduceEqDiff, ↓reduceIte, sy7, sy8, sy9, sya, oneOf, syb, syc, Nat.reduceAdd, Nat.reduceMul, syd, sye, syf, syg, syh, reduceCtorEq, fill_gen, fillF_2 (u := .int .i64 (a : Int)) (v := .int .i64 (b : Int)) rfl rfl]
  have hg3 : Grow w2 (w2.alloc (.cells #[.int .i64 a, .int .i64 b] 3)) := (Keep.refl _ _).alloc _
  have hb3 := heap_alloc_new w2 (.cells #[.int .i64 a, .int .i64 b] 3)
  generalize w2.alloc (.cells #[.int .i64 a, .int .i64 b] 3) = w3 at hg3 hb3 ⊢
  have hI := HasI_block2 hb3
  have ho3 := own_grow ho2 hg3
  rw [← supAt_zero a b] at ho3
  have hzne : ∀ b, zv.ownBlock = some b → b ≠ w2.heap.size := fun b hb => by have := (World.ownsRow.lt ho2 b hb).2; omega
  generalize hr : w2.heap.size = r at hb3 hI hzne ⊢
  refine loop_rule (fun e w' => ∃ i : Nat, i ≤ 2 ∧ e 16 = .int .i64 i ∧ e 15 = .int .i64 2 ∧ e 14 = .slice (some ⟨r, 0, none⟩) 2 2 ∧ e 5 = zv ∧ w'.ownsRow w.heap.size 5 1 zv 512 (bs (supAt a b (4 * i))) ∧ HasI w' (.slice (some ⟨r, 0, none⟩) 2 2) [(a : Int), (b : Int)] ∧ Grow w w') (fun e _ => 2 - (intOf (e 16)).toNat)
    ⟨0, by omega, by simp [upd, updO, ev], by simp [upd, updO, ev], by simp [upd, updO, ev], by simp [upd, updO, ev], ho3, hI, hg2.trans hg3⟩ ?_
  rintro e w4 ⟨i, hi, e16, e15, e14, e5, ho4, hI4, hg4⟩
  by_cases hlt : i < 2
  · obtain ⟨x, hx, hc, _⟩ := hI4.getI (i := i) (by simp; omega)
    have hval : [(a : Int), (b : Int)][i] = ((if i = 0 then a else b : Nat) : Int) := by
      match i, hlt with
      | 0, _ => rfl
      | 1, _ => rfl
    rw [hval] at hc
    have hvlt : (if i = 0 then a else b) < 65536 := by split <;> omega
    have hsv : ∀ k, k < 4 → (supV a b).getD (4 * i + k) 0 = UInt8.ofNat ((if i = 0 then a else b) / 2 ^ (24 - 8 * k)) := fun k hk => sup_val hlt hk
    generalize (if i = 0 then a else b) = n at hc hvlt hsv
    simp (maxSteps := 1000000) (disch := omega) only [↓sy1, sy2, sy3, readOK, sy5, sy6, Nat.reduceEqDiff, ↓reduceIte, sy7, sy8, sy9, sya, oneOf, syb, syc, Nat.reduceAdd, Nat.reduceMul, syd, sye, syf, syg, syh, reduceCtorEq, F23_L1, e16, e15, e14, e5, show ((i : Int) < 2) from by omega, decide_true, hx, hc]
    refine loop_rule (fun e w' => ∃ k : Nat, k ≤ 4 ∧ e 21 = .int .i64 k ∧ e 6 = .int .i64 i ∧ e 7 = .int .i64 n ∧ e 16 = .int .i64 i ∧ e 15 = .int .i64 2 ∧ e 14 = .slice (some ⟨r, 0, none⟩) 2 2 ∧ e 5 = zv ∧ w'.ownsRow w.heap.size 5 1 zv 512 (bs (supAt a b (4 * i + k))) ∧ HasI w' (.slice (some ⟨r, 0, none⟩) 2 2) [(a : Int), (b : Int)] ∧ Grow w w') (fun e _ => 4 - (intOf (e 21)).toNat)
      ⟨0, by omega, by simp [upd, updO, ev], by simp [upd, updO, ev], by simp [upd, updO, ev], by simp [upd, updO, ev, e16], by simp [upd, updO, ev, e15], by simp [upd, updO, ev, e14], by simp [upd, updO, ev, e5], ho4, hI4, hg4⟩ ?_
    rintro e w5 ⟨k, hk, e21, e6, e7, e16, e15, e14, e5, ho5, hI5, hg5⟩
    by_cases hk4 : k < 4
    · have hpos : (4 : Int) + 4 * (i : Int) + (k : Int) = ((4 + (4 * i + k) : Nat) : Int) := by omega
      have hsh : (24 : Int) - 8 * (k : Int) = ((24 - 8 * k : Nat) : Int) := by omega
      obtain ⟨y, w6, hy, hst, ho6, hk6, hbk⟩ := own_store ho5 (i := 4 + (4 * i + k)) (by omega) (u := .int .u8 (((supV a b).getD (4 * i + k) 0).toNat : Int)) rfl
      have hset : (bs (supAt a b (4 * i + k))).set (4 + (4 * i + k)) (.int .u8 (((supV a b).getD (4 * i + k) 0).toNat : Int)) = bs (supAt a b (4 * i + k + 1)) := by
        rw [← supAt_set (a := a) (b := b) (j := 4 * i + k) (by omega)]; simp [bs, List.map_set]
      rw [hset] at ho6
      have hbyte : ((n / 2 ^ (24 - 8 * k) : Nat) : Int) % 256 = (((supV a b).getD (4 * i + k) 0).toNat : Int) := by
        rw [hsv k hk4, UInt8.toNat_ofNat']; omega
      simp (maxSteps := 1000000) (disch := omega) only [↓sy1, sy2, sy3, readOK, sy5, sy6, Nat.reduceEqDiff, ↓reduceIte, sy7, sy8, sy9, sya, oneOf, syb, syc, Nat.reduceAdd, Nat.reduceMul, syd, sye, syf, syg, syh, reduceCtorEq, F23_L0, e21, e6, e7, e16, e15, e14, e5, show ((k : Int) < 4) from by omega, decide_true, hpos, hsh, shr_n (n := n) (s := 24 - 8 * k) (by omega) (by omega), hbyte, hy, hst]
      refine R_out ⟨⟨k + 1, by omega, rfl, ho6, hI5.keep hk6 (fun b hb _ hh => hzne b hh (by cases hb; rfl)), hg5.then hk6 (fun b hb hh => by have := hzb b hh; omega)⟩, by simp only [intOf]; omega⟩
    · have hk' : k = 4 := by omega
      subst hk'
      simp (maxSteps := 1000000) (disch := omega) only [↓sy1, sy2, sy3, readOK, sy5, sy6, Nat.reduceEqDiff, ↓reduceIte, sy7, sy8, sy9, sya, oneOf, syb, syc, Nat.reduceAdd, Nat.reduceMul, syd, sye, syf, syg, syh, reduceCtorEq, F23_L0, e21, e6, e7, e16, e15, e14, e5, show ¬ (((4 : Nat) : Int) < 4) from by omega, decide_false]
      exact R_out ⟨⟨i + 1, by omega, rfl, ho5, hI5, hg5⟩, by simp only [intOf]; omega⟩
  · have hi' : i = 2 := by omega
    subst hi'
    rw [show 4 * 2 = 8 from rfl, supAt_end] at ho4
    simp (maxSteps := 1000000) (disch := omega) only [↓sy1, sy2, sy3, readOK, sy5, sy6, Nat.reduceEqDiff, ↓reduceIte, sy7, sy8, sy9, sya, oneOf, syb, syc, Nat.reduceAdd, Nat.reduceMul, syd, sye, syf, syg, syh, reduceCtorEq, F23_L1, e16, e15, e14, e5, show ¬ (((2 : Nat) : Int) < 2) from by omega, decide_false]
    exact R_out ⟨ho4, hg4⟩
end Go.Proofs.YtienelpepioggaaGreat

/- A map is made; one is opened. -/
namespace Go.Proofs.YtienelpepioggaaGreat
open Go
set_option linter.unusedSimpArgs false
open Go.RowKit (intOf)
def upto1 (n N : Nat) : List Bool := (List.range N).map fun j => decide (j < n)
theorem upto1_length (n N : Nat) : (upto1 n N).length = N := by simp [upto1]
theorem upto1_get {n N j : Nat} (h : j < N) : (upto1 n N)[j]? = some (decide (j < n)) := by simp [upto1, h]
def orB (b : List UInt8) (i : Nat) : List UInt8 := b.set (i / 8) (UInt8.ofNat ((b.getD (i / 8) 0).toNat ||| 2 ^ (i % 8)))
theorem orB_length (b : List UInt8) (i : Nat) : (orB b i).length = b.length := by simp [orB]
theorem or1_lt {x : UInt8} {j : Nat} (hj : j < 8) : x.toNat ||| 2 ^ j < 2 ^ 8 := Nat.or_lt_two_pow x.toNat_lt (Nat.pow_lt_pow_right (by omega) hj)
theorem bitB_or {b : List UInt8} {i j : Nat} (h : i / 8 < b.length) : bitB (orB b i) j = if j = i then true else bitB b j := by
  unfold bitB orB
  by_cases hd : j / 8 = i / 8
  · rw [hd, List.getD_eq_getElem?_getD, List.getElem?_set_self h, Option.getD_some, UInt8.toNat_ofNat', Nat.mod_eq_of_lt (or1_lt (by omega)), Nat.testBit_or, Nat.testBit_two_pow]
    by_cases hm : j % 8 = i % 8
    · rw [if_pos (by omega), decide_eq_true (by omega), Bool.or_true]
    · rw [if_neg (by omega), decide_eq_false (by omega), Bool.or_false]
  · rw [List.getD_eq_getElem?_getD, List.getElem?_set_ne (Ne.symm hd), ← List.getD_eq_getElem?_getD, if_neg (by omega)]
theorem shl_or {x : UInt8} {i : Nat} (hi : i < 8) : ∃ a, binV .shl (.int .u8 1) (.int .i64 (i : Int)) = some (.int .u8 a) ∧ binV .or (.int .u8 (x.toNat : Int)) (.int .u8 a) = some (.int .u8 ((UInt8.ofNat (x.toNat ||| 2 ^ i)).toNat : Int)) := by
  have h := bit_at (x := x.toNat) x.toNat_lt hi
  simp only [bitChk, Bool.and_eq_true, decide_eq_true_eq] at h
  refine ⟨IntKind.u8.wrap (1 * 2 ^ (min ((i : Int).toNat) 8)), ?_, ?_⟩
  · simp only [binV]; rw [if_neg (by omega)]; rfl
  · simp only [binV]; rw [if_pos trivial]
    refine congrArg (fun z => some (Value.int .u8 z)) (h.1.2.trans ?_)
    rw [UInt8.toNat_ofNat', Nat.mod_eq_of_lt (or1_lt hi)]
/-- The first n bits set. -/
def bitRow : Nat → List UInt8
  | 0 => zsec
  | n + 1 => orB (bitRow n) n
theorem bitRow_length : ∀ n, (bitRow n).length = 512
  | 0 => zsec_length
  | n + 1 => by rw [bitRow, orB_length, bitRow_length n]
theorem bitB_zsec (j : Nat) : bitB zsec j = false := by
  have h0 : (zsec.getD (j / 8) 0) = 0 := by
    rw [List.getD_eq_getElem?_getD, zsec, List.getElem?_replicate]
    split <;> rfl
  unfold bitB
  rw [h0]; exact Nat.zero_testBit _
theorem bitRow_bit : ∀ n j, n ≤ 4096 → bitB (bitRow n) j = decide (j < n)
  | 0, j, _ => bitB_zsec j
  | n + 1, j, h => by
    rw [bitRow, bitB_or (by rw [bitRow_length]; omega), bitRow_bit n j (by omega)]
    by_cases hj : j = n
    · rw [if_pos hj]; exact (decide_eq_true (by omega)).symm
    · rw [if_neg hj]; exact decide_eq_decide.2 (by omega)
def oneRow : List UInt8 := zsec.set 0 1
theorem oneRow_length : oneRow.length = 512 := by rw [oneRow, List.length_set, zsec_length]
theorem oneRow_bit (j : Nat) : bitB oneRow j = decide (j < 1) := by
  by_cases hj : j / 8 = 0
  · unfold bitB oneRow
    rw [hj, List.getD_eq_getElem?_getD, List.getElem?_set_self (by rw [zsec_length]; omega), Option.getD_some]
    have : j = 0 ∨ j = 1 ∨ j = 2 ∨ j = 3 ∨ j = 4 ∨ j = 5 ∨ j = 6 ∨ j = 7 := by omega
    rcases this with rfl | rfl | rfl | rfl | rfl | rfl | rfl | rfl <;> decide
  · have h1 : bitB oneRow j = bitB zsec j := by
      unfold bitB oneRow
      rw [List.getD_eq_getElem?_getD, List.getElem?_set_ne (by omega), ← List.getD_eq_getElem?_getD]
    rw [h1, bitB_zsec]; exact (decide_eq_false (by omega)).symm
theorem bitsOf_row {n N : Nat} (h : n ≤ 4096) : bitsOf (bitRow n) N = upto1 n N := List.map_congr_left fun j _ => bitRow_bit n j h
theorem bitsOf_one (N : Nat) : bitsOf oneRow N = upto1 1 N := List.map_congr_left fun j _ => oneRow_bit j
/-- Pages are written, one behind the other. -/
def wrN (c : Csh) (ls : List (List UInt8)) : Nat → Csh
  | 0 => c
  | n + 1 => (wrN c ls n).write n (ls.getD n [])
section
variable {c : Csh} {ls : List (List UInt8)}
theorem wrN_N (c : Csh) (ls : List (List UInt8)) : ∀ n, (wrN c ls n).N = c.N ∧ (wrN c ls n).D = c.D ∧ (wrN c ls n).size = c.size ∧ (wrN c ls n).most = c.most
  | 0 => ⟨rfl, rfl, rfl, rfl⟩
  | n + 1 => wrN_N c ls n
theorem wrN_page : ∀ n m, (wrN c ls n).page m = if m < n then ls.getD m [] else c.page m
  | 0, m => by rw [if_neg (by omega)]; rfl
  | n + 1, m => by
    rw [wrN, Csh.write_page, wrN_page n m]
    by_cases h : m = n
    · subst h; rw [if_pos rfl, if_pos (by omega)]
    · rw [if_neg h]
      by_cases h2 : m < n
      · rw [if_pos h2, if_pos (by omega)]
      · rw [if_neg h2, if_neg (by omega)]
theorem wrN_dirty : ∀ n, n ≤ c.N → (wrN c ls n).dirty.length ≤ c.dirty.length + n
  | 0, _ => by simp [wrN]
  | n + 1, h => by
    have h1 := wrN_dirty n (by omega)
    rw [wrN, write_dirty (by rw [(wrN_N c ls n).1]; omega)]
    split <;> omega
end
theorem Alc.made {c : Csh} {ls : List (List UInt8)} {k : Nat} (hm : mayA c.N k) (h0 : ls.getD 0 [] = superB c.N k) (h1 : ls.getD 1 [] = oneRow) (h2 : ls.getD 2 [] = bitRow (3 + k / 8)) : Alc (wrN c ls (3 + k / 8)) (upto1 (3 + k / 8) c.N) (upto1 1 k) := by
  have hm' := hm
  unfold mayA at hm'
  have hN := (wrN_N c ls (3 + k / 8)).1
  refine ⟨?_, ?_, ?_, ?_, fun j hj => ?_, ?_⟩
  · rw [wrN_page, if_pos (by omega), h0, hN, upto1_length]
  · rw [wrN_page, if_pos (by omega), h2, hN, bitsOf_row (by omega)]
  · rw [wrN_page, if_pos (by omega), h1, upto1_length, bitsOf_one]
  · rw [hN, upto1_length]; exact hm
  · rw [upto1_length] at hj; rw [upto1_get (by omega), decide_eq_true (by omega)]
  · rw [upto1_get (by omega)]; rfl
theorem may_spec {w : World} {a : Nat} {b : Int} : Calls Tryz.prog 22 #[.int .i64 a, .int .i64 b] w (Ret fun v w' => v = .bool (decide (mayA a b)) ∧ w' = w) := by
  apply enter22
  apply R_in
  by_cases h1 : 8 ≤ b
  · obtain ⟨k, rfl⟩ : ∃ k : Nat, b = k := ⟨b.toNat, by omega⟩
    have hmod : ((k : Int)).tmod 8 = ((k % 8 : Nat) : Int) := rfl
    have hdiv : ((k : Int)).tdiv 8 = ((k / 8 : Nat) : Int) := rfl
    by_cases h2 : (k : Int) ≤ 512
    · by_cases h3 : k % 8 = 0
      · by_cases h4 : a ≤ 4096
        · by_cases h5 : 3 + k / 8 < a
          · simp (maxSteps := 1000000) (disch := omega) only [↓sy1, sy2, sy3, readOK, sy5, sy6, Nat.reduceEqDiff, ↓reduceIte, sy7, sy8, sy9, sya, oneOf, syb, syc, Nat.reduceAdd, Nat.reduceMul, syd, sye, syf, syg, syh, reduceCtorEq, F22, h1, h2, decide_true, hmod, hdiv, show (((k % 8 : Nat) : Int) = 0) from by omega, show ((a : Int) ≤ 4096) from by omega, show ((3 : Int) + ((k / 8 : Nat) : Int) < (a : Int)) from by omega]
            refine R_out ?_
            rw [decide_eq_true (p := mayA a k) (by unfold mayA; omega)]
          · simp (maxSteps := 1000000) (disch := omega) only [↓sy1, sy2, sy3, readOK, sy5, sy6, Nat.reduceEqDiff, ↓reduceIte, sy7, sy8, sy9, sya, oneOf, syb, syc, Nat.reduceAdd, Nat.reduceMul, syd, sye, syf, syg, syh, reduceCtorEq, F22, h1, h2, decide_true, hmod, hdiv, show (((k % 8 : Nat) : Int) = 0) from by omega, show ((a : Int) ≤ 4096) from by omega, show ¬ ((3 : Int) + ((k / 8 : Nat) : Int) < (a : Int)) from by omega, decide_false]
            refine R_out ?_
            rw [decide_eq_false (p := mayA a k) (by unfold mayA; omega)]
        · simp (maxSteps := 1000000) (disch := omega) only [↓sy1, sy2, sy3, readOK, sy5, sy6, Nat.reduceEqDiff, ↓reduceIte, sy7, sy8, sy9, sya, oneOf, syb, syc, Nat.reduceAdd, Nat.reduceMul, syd, sye, syf, syg, syh, reduceCtorEq, F22, h1, h2, decide_true, hmod, hdiv, show (((k % 8 : Nat) : Int) = 0) from by omega, show ¬ ((a : Int) ≤ 4096) from by omega, decide_false]
          refine R_out ?_
          rw [decide_eq_false (p := mayA a k) (by unfold mayA; omega)]
      · simp (maxSteps := 1000000) (disch := omega) only [↓sy1, sy2, sy3, readOK, sy5, sy6, Nat.reduceEqDiff, ↓reduceIte, sy7, sy8, sy9, sya, oneOf, syb, syc, Nat.reduceAdd, Nat.reduceMul, syd, sye, syf, syg, syh, reduceCtorEq, F22, h1, h2, decide_true, hmod, hdiv, show ¬ (((k % 8 : Nat) : Int) = 0) from by omega, decide_false]
        refine R_out ?_
        rw [decide_eq_false (p := mayA a k) (by unfold mayA; omega)]
    · simp (maxSteps := 1000000) (disch := omega) only [↓sy1, sy2, sy3, readOK, sy5, sy6, Nat.reduceEqDiff, ↓reduceIte, sy7, sy8, sy9, sya, oneOf, syb, syc, Nat.reduceAdd, Nat.reduceMul, syd, sye, syf, syg, syh, reduceCtorEq, F22, h1, h2, decide_true, decide_false]
      refine R_out ?_
      rw [decide_eq_false (p := mayA a k) (by unfold mayA; omega)]
  · simp (maxSteps := 1000000) (disch := omega) only [↓sy1, sy2, sy3, readOK, sy5, sy6, Nat.reduceEqDiff, ↓reduceIte, sy7, sy8, sy9, sya, oneOf, syb, syc, Nat.reduceAdd, Nat.reduceMul, syd, sye, syf, syg, syh, reduceCtorEq, F22, h1, decide_false]
    refine R_out ?_
    rw [decide_eq_false (p := mayA a b) (by unfold mayA; omega)]
theorem numbers_spec {w : World} {n : Nat} (hn : n ≤ 100000) : Calls Tryz.prog 26 #[.int .i64 n] w (Ret fun v w' => HasI w' v (zs (List.range n)) ∧ Grow w w') := by
  apply enter26
  apply R_in
  simp (maxSteps := 1000000) (disch := omega) only [↓sy1, sy2, sy3, readOK, sy5, sy6, Nat.reduceEqDiff, ↓reduceIte, sy7, sy8, sy9, sya, oneOf, syb, syc, Nat.reduceAdd, Nat.reduceMul, syd, sye, syf, syg, syh, reduceCtorEq, F26]
  refine loop_rule (fun e w' => ∃ i : Nat, i ≤ n ∧ e 6 = .int .i64 i ∧ e 5 = .int .i64 n ∧ w'.ownsRow w.heap.size 3 1 (e 3) i (ints (zs (List.range i))) ∧ Grow w w') (fun e _ => n - (intOf (e 6)).toNat)
    ⟨0, by omega, by simp [upd, updO, ev], by simp [upd, updO, ev], by simpa [upd, updO, ev, zs, ints] using World.ownsRow_nil w _ _ _, Keep.refl _ _⟩ ?_
  rintro e w1 ⟨i, hi, e6, e5, ho, hg⟩
  by_cases hlt : i < n
  · simp (maxSteps := 1000000) (disch := omega) only [↓sy1, sy2, sy3, readOK, sy5, sy6, Nat.reduceEqDiff, ↓reduceIte, sy7, sy8, sy9, sya, oneOf, syb, syc, Nat.reduceAdd, Nat.reduceMul, syd, sye, syf, syg, syh, reduceCtorEq, F26_L0, e6, e5, Int.ofNat_lt, hlt, decide_true]
    have hga : Grow w1 (w1.alloc (.cells #[.int .i64 (i : Int)] 3)) := (Keep.refl _ _).alloc _
    refine app_own elemI (by simp only [upd_at, Nat.reduceEqDiff, reduceIte, ev_tmp, ev_const, List.map_cons, List.map_nil]) (by simp only [upd_at, Nat.reduceEqDiff, reduceIte, ev_tmp, ev_const, List.map_cons, List.map_nil]) (own_grow ho hga) Has.new1 (m := 1) rfl (by simp [isCell]) (by omega) (by omega) (by have := hga.size; have := hg.size; omega) ?_
    intro v' w2 ho2 hg2
    simp (maxSteps := 1000000) (disch := omega) only [↓sy1, sy2, sy3, readOK, sy5, sy6, Nat.reduceEqDiff, ↓reduceIte, sy7, sy8, sy9, sya, oneOf, syb, syc, Nat.reduceAdd, Nat.reduceMul, syd, sye, syf, syg, syh, reduceCtorEq, e6, e5]
    refine R_out ⟨⟨i + 1, by omega, rfl, ?_, (hg.trans hga).then (Keep.grown hg2) (fun b hb hh => ?_)⟩, by simp only [intOf]; omega⟩
    · have : ints (zs (List.range i)) ++ [.int .i64 (i : Int)] = ints (zs (List.range (i + 1))) := by simp [List.range_succ, ints, zs]
      rw [this] at ho2; exact ho2
    · have := (World.ownsRow.lt ho b hh.symm).1; omega
  · have hie : i = n := by omega
    subst hie
    simp (maxSteps := 1000000) (disch := omega) only [↓sy1, sy2, sy3, readOK, sy5, sy6, Nat.reduceEqDiff, ↓reduceIte, sy7, sy8, sy9, sya, oneOf, syb, syc, Nat.reduceAdd, Nat.reduceMul, syd, sye, syf, syg, syh, reduceCtorEq, F26_L0, e6, e5, Int.ofNat_lt, hlt, decide_false]
    exact R_out ⟨Has.own ho, hg⟩
end Go.Proofs.YtienelpepioggaaGreat

/- What a head says, in plain words; a head of any bytes is read; a log is opened over any disk. -/
namespace Go.Proofs.YtienelpepioggaaGreat
open Go
set_option linter.unusedSimpArgs false
open Go.RowKit (intOf)
def goodN (pages : Nat) (l : List Nat) : Prop := l.Pairwise (· < ·) ∧ ∀ p ∈ l, p < pages
instance (pages : Nat) (l : List Nat) : Decidable (goodN pages l) := by unfold goodN; infer_instance
end Go.Proofs.YtienelpepioggaaGreat

/- A log is opened over any disk. -/
namespace Go.Proofs.YtienelpepioggaaGreat
open Go
set_option linter.unusedSimpArgs false
open Go.RowKit (intOf)
end Go.Proofs.YtienelpepioggaaGreat

/- What a crash leaves of a log's disk, in plain words: behind it all pages are as ahead of the group, or as behind it. -/
namespace Go.Proofs.YtienelpepioggaaGreat
open Go
abbrev Img := List (List UInt8)
theorem Flat.image {D : Dsk} (h : Flat D) : D.image = D.safe := by
  unfold Dsk.image; rw [h]
  exact flushed_none _
section home
variable {size : Nat} {D : Dsk} {ns : List Nat} {P : Img}
end home
/-- The pages. -/
def pg (size : Nat) (D : Dsk) : Img := D.image.drop (size + 1)
section group
variable {size : Nat} {D : Dsk} {ps : List (Nat × List UInt8)}
end group
end Go.Proofs.YtienelpepioggaaGreat

/- What a crash keeps; a disk that is cut, and crashed. -/
namespace Go.Proofs.YtienelpepioggaaGreat
open Go
set_option linter.unusedSimpArgs false
open Go.RowKit (intOf)
/-- A row of rows in nobody's blocks. -/
def Zero (G : Gh) (w : World) (v : Value) (xs : List Value) : Prop := Has 1 w v xs ∧ ∀ b, v.ownBlock = some b → xs ≠ [] → b < w.heap.size ∧ G.own b = 0
theorem Zero.ext {K : Nat → Prop} {G G' : Gh} {w w' : World} {v : Value} {xs : List Value} (h : Zero G w v xs) (hx : Ext K G w G' w') (h0 : ¬ K 0) : Zero G' w' v xs := by
  refine ⟨h.1.keep hx.keep (fun b hb hne => by rw [(h.2 b hb hne).2]; exact h0), fun b hb hne => ?_⟩
  obtain ⟨h1, h2⟩ := h.2 b hb hne
  exact ⟨Nat.lt_of_lt_of_le h1 hx.size, by rw [hx.own b h1]; exact h2⟩
theorem Zero.own {B k : Nat} {t : TypeId} {w w' : World} {G : Gh} {v : Value} {xs : List Value} (h : w'.ownsRow B t 1 v k xs) (hB : w.heap.size ≤ B) : Zero (G.new w.heap.size) w' v xs :=
  ⟨Has.own h, fun b hb _ => ⟨(World.ownsRow.lt h b hb).2, Gh.new_own (Nat.le_trans hB (World.ownsRow.lt h b hb).1)⟩⟩
def ZRows (G : Gh) (w : World) : List Value → List (List UInt8) → Prop
  | [], [] => True
  | v :: vs, l :: ls => Zero G w v (bs l) ∧ ZRows G w vs ls
  | _, _ => False
theorem ZRows.ext {K : Nat → Prop} {G G' : Gh} {w w' : World} (hx : Ext K G w G' w') (h0 : ¬ K 0) : ∀ {vs : List Value} {ls : List (List UInt8)}, ZRows G w vs ls → ZRows G' w' vs ls
  | [], [], _ => trivial
  | _ :: _, _ :: _, ⟨h1, h2⟩ => ⟨h1.ext hx h0, ZRows.ext hx h0 h2⟩
theorem ZRows.rows {G : Gh} {w : World} : ∀ {vs : List Value} {ls : List (List UInt8)}, ZRows G w vs ls → Rows w vs ls
  | [], [], _ => trivial
  | _ :: _, _ :: _, ⟨h1, h2⟩ => ⟨h1.1, h2.rows⟩
theorem ZRows.own {B : Nat} {t : TypeId} {w w' : World} {G : Gh} (hB : w.heap.size ≤ B) : ∀ {vs : List Value} {ls : List (List UInt8)}, RowsO B t w' vs ls → ZRows (G.new w.heap.size) w' vs ls
  | [], [], _ => trivial
  | _ :: _, _ :: _, ⟨h1, h2⟩ => ⟨.own h1 hB, ZRows.own hB h2⟩
def ZeroR (G : Gh) (w : World) (v : Value) (ls : List (List UInt8)) : Prop := ∃ vs, Zero G w v vs ∧ ZRows G w vs ls
theorem ZeroR.ext {K : Nat → Prop} {G G' : Gh} {w w' : World} {v : Value} {ls : List (List UInt8)} (h : ZeroR G w v ls) (hx : Ext K G w G' w') (h0 : ¬ K 0) : ZeroR G' w' v ls := let ⟨vs, h1, h2⟩ := h; ⟨vs, h1.ext hx h0, h2.ext hx h0⟩
theorem ZeroR.has {G : Gh} {w : World} {v : Value} {ls : List (List UInt8)} (h : ZeroR G w v ls) : HasR w v ls := let ⟨vs, h1, h2⟩ := h; ⟨vs, h1.1, h2.rows⟩
theorem FreshR.zero {B : Nat} {tr t : TypeId} {G : Gh} {w w' : World} {v : Value} {ls : List (List UInt8)} (h : FreshR B tr t w' v ls) (hB : w.heap.size ≤ B) : ZeroR (G.new w.heap.size) w' v ls := let ⟨vs, h1, h2⟩ := h; ⟨vs, .own h1 hB, .own hB h2⟩
end Go.Proofs.YtienelpepioggaaGreat

/- A map is made: the walk. -/
namespace Go.Proofs.YtienelpepioggaaGreat
open Go
set_option linter.unusedSimpArgs false
open Go.RowKit (intOf)
/-- Rows of 512 bytes, each in a block of its own. -/
structure DRows (B : Nat) (w : World) (vs : List Value) (ls : List (List UInt8)) : Prop where
  len : vs.length = ls.length
  row : ∀ (i : Nat) (v : Value) (l : List UInt8), vs[i]? = some v → ls[i]? = some l → w.ownsRow B 5 1 v 512 (bs l)
  apart : ∀ (i j : Nat) (v u : Value), vs[i]? = some v → vs[j]? = some u → i ≠ j → ∀ b, v.ownBlock = some b → u.ownBlock ≠ some b
theorem DRows.keep {S : Nat → Prop} {B : Nat} {w w' : World} {vs : List Value} {ls : List (List UInt8)} (h : DRows B w vs ls) (hk : Keep S w w') (hs : ∀ v ∈ vs, ∀ b, v.ownBlock = some b → ¬ S b) : DRows B w' vs ls :=
  ⟨h.len, fun i v l hv hl => own_keep (h.row i v l hv hl) hk (fun b hb => hs v (List.mem_of_getElem? hv) b hb), h.apart⟩
theorem DRows.grow {B : Nat} {w w' : World} {vs : List Value} {ls : List (List UInt8)} (h : DRows B w vs ls) (hg : Grow w w') : DRows B w' vs ls := h.keep hg (fun _ _ _ _ => id)
theorem DRows.lt {B : Nat} {w : World} {vs : List Value} {ls : List (List UInt8)} (h : DRows B w vs ls) {v : Value} (hv : v ∈ vs) {b : Nat} (hb : v.ownBlock = some b) : B ≤ b ∧ b < w.heap.size := by
  obtain ⟨i, hi, rfl⟩ := List.getElem_of_mem hv
  have h1 := h.row i vs[i] (ls[i]'(by rw [← h.len]; exact hi)) (List.getElem?_eq_getElem hi) (List.getElem?_eq_getElem _)
  exact World.ownsRow.lt h1 b hb
theorem DRows.snoc {B : Nat} {w w' : World} {vs : List Value} {ls : List (List UInt8)} {u : Value} {l : List UInt8} (h : DRows B w vs ls) (hg : Grow w w') (hB : B ≤ w.heap.size) (hu : w'.ownsRow w.heap.size 5 1 u 512 (bs l)) : DRows B w' (vs ++ [u]) (ls ++ [l]) := by
  have hl := h.len
  have hcase : ∀ {i : Nat} {v : Value}, (vs ++ [u])[i]? = some v → vs[i]? = some v ∨ (i = vs.length ∧ v = u) := fun {i v} hv => by
    rcases Nat.lt_trichotomy i vs.length with h1 | h1 | h1
    · rw [List.getElem?_append_left h1] at hv; exact .inl hv
    · subst h1; simp at hv; exact .inr ⟨rfl, hv.symm⟩
    · rw [List.getElem?_eq_none (by simp; omega)] at hv; cases hv
  refine ⟨by simp [hl], fun i v x hv hx => ?_, fun i j v z hv hz hij b hb hc => ?_⟩
  · rcases hcase hv with h1 | ⟨rfl, rfl⟩
    · have hi := (List.getElem?_eq_some_iff.1 h1).1
      rw [List.getElem?_append_left (by omega)] at hx
      exact own_grow (h.row i v x h1 hx) hg
    · rw [hl] at hx; simp at hx; subst hx; exact own_base hu hB
  · rcases hcase hv with h1 | ⟨rfl, rfl⟩
    · rcases hcase hz with h2 | ⟨rfl, rfl⟩
      · exact h.apart i j v z h1 h2 hij b hb hc
      · have h3 := (h.lt (List.mem_of_getElem? h1) hb).2
        have h4 := (World.ownsRow.lt hu b hc).1
        omega
    · rcases hcase hz with h2 | ⟨rfl, rfl⟩
      · have h3 := (h.lt (List.mem_of_getElem? h2) hc).2
        have h4 := (World.ownsRow.lt hu b hb).1
        omega
      · exact hij rfl
/-- A byte of a row is written. -/
theorem DRows.store {B : Nat} {w : World} {vs : List Value} {ls : List (List UInt8)} (h : DRows B w vs ls) {i j : Nat} {l : List UInt8} {v : Value} (hv : vs[i]? = some v) (hl : ls[i]? = some l) (hj : j < 512) (hll : l.length = 512) (x : UInt8) :
    ∃ a w', iaF 1 v (.int .i64 j) = some (.pointer (some a)) ∧ w.cell? a = some (.int .u8 ((l.getD j 0).toNat : Int)) ∧ stF w (.pointer (some a)) (.int .u8 (x.toNat : Int)) = some (undef, w') ∧ DRows B w' vs (ls.set i (l.set j x)) ∧ Keep (fun b => v.ownBlock = some b) w w' := by
  have h1 := h.row i v l hv hl
  obtain ⟨a, w', ha, hst, ho, hk, _⟩ := own_store h1 hj (u := .int .u8 (x.toNat : Int)) rfl
  obtain ⟨a', ha', hc, _⟩ := (Has.own h1).getB (i := j) (by omega)
  rw [ha] at ha'
  cases ha'
  refine ⟨a, w', ha, by rw [hc, List.getD_eq_getElem?_getD, List.getElem?_eq_getElem (by omega)]; rfl, hst, ⟨by rw [List.length_set]; exact h.len, fun i' v' l' hv' hl' => ?_, h.apart⟩, hk⟩
  by_cases hii : i' = i
  · subst hii
    rw [hv] at hv'; cases hv'
    have hil := (List.getElem?_eq_some_iff.1 hl).1
    rw [List.getElem?_set_self hil] at hl'; cases hl'
    have : (bs l).set j (.int .u8 (x.toNat : Int)) = bs (l.set j x) := by simp [bs, List.map_set]
    rw [this] at ho; exact ho
  · rw [List.getElem?_set_ne (Ne.symm hii)] at hl'
    exact own_keep (h.row i' v' l' hv' hl') hk (fun b hb hh => h.apart i i' v v' hv hv' (Ne.symm hii) b hh hb)
theorem own_one (w : World) (B : Nat) (hB : B ≤ w.heap.size) (el : TypeId) (z : Value) : (w.alloc (.cells #[z] el)).ownsRow B el 1 (.slice (some ⟨w.heap.size, 0, none⟩) 1 1) 1 [z] :=
  ⟨by simp, .inr ⟨w.heap.size, 1, _, rfl, hB, heap_alloc_new w _, Nat.le_refl _, by unfold maxLen; omega, by simp, by simp⟩⟩
theorem firstc_spec {w : World} {m k : Nat} (hc : w.cell? ⟨m, 1, none⟩ = some (.int .i64 k)) (hk : k ≤ 100000) : Calls Tryz.prog 24 #[.pointer (some ⟨m, 0, none⟩)] w (Ret fun v w' => v = .int .i64 ((3 + k / 8 : Nat) : Int) ∧ w' = w) := by
  apply enter24
  apply R_in
  simp (maxSteps := 1000000) (disch := omega) only [↓sy1, sy2, sy3, readOK, sy5, sy6, Nat.reduceEqDiff, ↓reduceIte, sy7, sy8, sy9, sya, oneOf, syb, syc, Nat.reduceAdd, Nat.reduceMul, syd, sye, syf, syg, syh, reduceCtorEq, F24, hc, tdiv8]
  exact R_out (congrArg (Value.int .i64) (by omega))
/-- The pages as they are made, behind the bits of the first n pages. -/
def made0 (N k : Nat) : List (List UInt8) := superB N k :: List.replicate (2 + k / 8) zsec
def madeN (N k n : Nat) : List (List UInt8) := ((made0 N k).set 1 oneRow).set 2 (bitRow n)
theorem made0_length (N k : Nat) : (made0 N k).length = 3 + k / 8 := by simp [made0]; omega
theorem madeN_length (N k n : Nat) : (madeN N k n).length = 3 + k / 8 := by rw [madeN, List.length_set, List.length_set, made0_length]
theorem madeN_zero {N k : Nat} : madeN N k 0 = (made0 N k).set 1 oneRow := by
  unfold madeN bitRow
  refine List.ext_getElem? fun i => ?_
  rw [List.getElem?_set]
  split
  · rename_i h; subst h
    rw [List.length_set, made0_length, if_pos (by omega), List.getElem?_set_ne (by omega), made0]
    rw [show (2 : Nat) = 1 + 1 from rfl, List.getElem?_cons_succ, List.getElem?_replicate, if_pos (by omega)]
  · rfl
theorem madeN_row {N k n : Nat} : (madeN N k n)[2]? = some (bitRow n) := List.getElem?_set_self (by rw [List.length_set, made0_length]; omega)
theorem madeN_step {N k n : Nat} (b : List UInt8) (h : b = bitRow (n + 1)) : (madeN N k n).set 2 b = madeN N k (n + 1) := by
  rw [madeN, List.set_set, h]; rfl
theorem madeN_len512 {N k n i : Nat} {l : List UInt8} (h : (madeN N k n)[i]? = some l) : l.length = 512 := by
  have h1 := List.mem_of_getElem? h
  unfold madeN made0 at h1
  rcases List.mem_or_eq_of_mem_set h1 with h1 | rfl
  · rcases List.mem_or_eq_of_mem_set h1 with h1 | rfl
    · rcases List.mem_cons.1 h1 with rfl | h1
      · exact superB_length _ _
      · rw [(List.mem_replicate.1 h1).2]; exact zsec_length
    · exact oneRow_length
  · exact bitRow_length _
theorem madeN_get (N k n : Nat) : (madeN N k n).getD 0 [] = superB N k ∧ (madeN N k n).getD 1 [] = oneRow ∧ (madeN N k n).getD 2 [] = bitRow n := by
  refine ⟨?_, ?_, ?_⟩
  · rw [List.getD_eq_getElem?_getD, madeN, List.getElem?_set_ne (by omega), List.getElem?_set_ne (by omega)]; rfl
  · rw [List.getD_eq_getElem?_getD, madeN, List.getElem?_set_ne (by omega), List.getElem?_set_self (by rw [made0_length]; omega)]; rfl
  · rw [List.getD_eq_getElem?_getD, madeN_row]; rfl
section
variable {G : Gh} {κ μ p lq came : Nat} {w : World} {c : Csh}
set_option maxHeartbeats 8000000 in
theorem make_spec (h : CacheS G κ μ w p lq came c) (hn6 : κ ≠ 6 ∧ μ ≠ 6) {k : Nat} (hk : mayA c.N k) (hroom : c.dirty.length + (3 + k / 8) ≤ c.cap) :
    Calls Tryz.prog 7 #[.pointer (some ⟨p, 0, none⟩), .int .i64 k] w (Ret fun v w' => ∃ m G', v = .tuple #[.pointer (some ⟨m, 0, none⟩), .int .i64 0] ∧ w.heap.size ≤ m ∧
      MapAt G' κ μ w' m p lq came (wrN c (madeN c.N k (3 + k / 8)) (3 + k / 8)) (upto1 (3 + k / 8) c.N) (upto1 1 k) ∧ Ext (fun x => x = μ) G w G' w') := by
  have hk' := hk
  unfold mayA at hk'
  have hne := h.ne
  have hF := made0_length c.N k
  apply enter7
  apply R_in
  simp (maxSteps := 1000000) (disch := omega) only [↓sy1, sy2, sy3, readOK, sy5, sy6, Nat.reduceEqDiff, ↓reduceIte, sy7, sy8, sy9, sya, oneOf, syb, syc, Nat.reduceAdd, Nat.reduceMul, syd, sye, syf, syg, syh, reduceCtorEq, F7]
  refine call0 (cslog_spec h) ?_
  rintro _ w1 ⟨rfl, rfl⟩
  simp (maxSteps := 1000000) (disch := omega) only [↓sy1, sy2, sy3, readOK, sy5, sy6, Nat.reduceEqDiff, ↓reduceIte, sy7, sy8, sy9, sya, oneOf, syb, syc, Nat.reduceAdd, Nat.reduceMul, syd, sye, syf, syg, syh, reduceCtorEq]
  obtain ⟨row, hca⟩ := id h
  refine call0 (pages_spec hca.2.log) ?_
  rintro _ w2 ⟨rfl, hg2⟩
  rw [show ((c.D.first.length - c.size - 1 : Nat) : Int) = (c.N : Int) from rfl]
  clear hca
  simp (maxSteps := 1000000) (disch := omega) only [↓sy1, sy2, sy3, readOK, sy5, sy6, Nat.reduceEqDiff, ↓reduceIte, sy7, sy8, sy9, sya, oneOf, syb, syc, Nat.reduceAdd, Nat.reduceMul, syd, sye, syf, syg, syh, reduceCtorEq]
  refine call0 (may_spec (a := c.N) (b := k)) ?_
  rintro _ w2 ⟨rfl, rfl⟩
  simp (maxSteps := 1000000) (disch := omega) only [↓sy1, sy2, sy3, readOK, sy5, sy6, Nat.reduceEqDiff, ↓reduceIte, sy7, sy8, sy9, sya, oneOf, syb, syc, Nat.reduceAdd, Nat.reduceMul, syd, sye, syf, syg, syh, reduceCtorEq, decide_eq_true hk, fill_gen, fillF_2 (u := .pointer (some ⟨p, 0, none⟩)) (v := .int .i64 (k : Int)) rfl rfl, agg2_cells (x := .pointer (some ⟨p, 0, none⟩)) (y := .int .i64 (k : Int)) rfl rfl]
  have hg3 : Grow w2 (w2.alloc (.cells #[.pointer (some ⟨p, 0, none⟩), .int .i64 (k : Int)] 70)) := (Keep.refl _ _).alloc _
  have hb3 := heap_alloc_new w2 (.cells #[.pointer (some ⟨p, 0, none⟩), .int .i64 (k : Int)] 70)
  have hmB : w1.heap.size ≤ w2.heap.size := hg2.size
  generalize w2.alloc (.cells #[.pointer (some ⟨p, 0, none⟩), .int .i64 (k : Int)] 70) = w3 at hg3 hb3 ⊢
  generalize w2.heap.size = m at hb3 hmB ⊢
  have hmc : ∀ {w'}, Grow w3 w' → w'.cell? ⟨m, 1, none⟩ = some (.int .i64 k) := fun hg => by rw [cell_block (hg.gheap hb3)]; rfl
  have hg03 : Grow w1 w3 := hg2.trans hg3
  refine call0 (super_spec (a := c.N) (b := k) (by omega) (by omega)) ?_
  rintro sv w4 ⟨hsv, hg4⟩
  have hsc := (Has.own hsv).isCell
  simp (maxSteps := 1000000) (disch := omega) only [↓sy1, sy2, sy3, readOK, sy5, sy6, Nat.reduceEqDiff, ↓reduceIte, sy7, sy8, sy9, sya, oneOf, syb, syc, Nat.reduceAdd, Nat.reduceMul, syd, sye, syf, syg, syh, reduceCtorEq, fill_one, oneF_cell hsc]
  have hg5 : Grow w4 (w4.alloc (.cells #[sv] 46)) := (Keep.refl _ _).alloc _
  have ho5 := own_one w4 w4.heap.size (Nat.le_refl _) 46 sv
  generalize w4.alloc (.cells #[sv] 46) = w5 at hg5 ho5 ⊢
  generalize (Value.slice (some ⟨w4.heap.size, 0, none⟩) 1 1) = lv at ho5 ⊢
  have hg35 : Grow w3 w5 := hg4.trans hg5
  have hD5 : DRows w3.heap.size w5 [sv] [superB c.N k] := by
    refine ⟨rfl, fun i v l hv hl => ?_, fun i j v u hv hu hij => ?_⟩
    · match i, hv, hl with
      | 0, hv, hl => simp at hv hl; subst hv; subst hl; exact own_grow hsv hg5
      | i + 1, hv, _ => simp at hv
    · match i, j, hv, hu with
      | 0, 0, _, _ => exact absurd rfl hij
      | 0, j + 1, _, hu => simp at hu
      | i + 1, _, hv, _ => simp at hv
  refine call0 (firstc_spec (hmc hg35) (by omega)) ?_
  rintro _ w6 ⟨rfl, rfl⟩
  have hsub : ((3 + k / 8 : Nat) : Int) - 1 = ((2 + k / 8 : Nat) : Int) := by omega
  simp (maxSteps := 1000000) (disch := omega) only [↓sy1, sy2, sy3, readOK, sy5, sy6, Nat.reduceEqDiff, ↓reduceIte, sy7, sy8, sy9, sya, oneOf, syb, syc, Nat.reduceAdd, Nat.reduceMul, syd, sye, syf, syg, syh, reduceCtorEq, hsub]
  refine loop_rule (fun e w' => ∃ (i : Nat) (vs : List Value), i ≤ 2 + k / 8 ∧ e 32 = .int .i64 i ∧ e 31 = .int .i64 ((2 + k / 8 : Nat) : Int) ∧ e 0 = .pointer (some ⟨p, 0, none⟩) ∧ e 1 = .int .i64 k ∧ e 7 = .pointer (some ⟨m, 0, none⟩) ∧ vs.length = i + 1 ∧ w'.ownsRow w3.heap.size 46 1 (e 8) (i + 1) vs ∧ DRows w3.heap.size w' vs (superB c.N k :: List.replicate i zsec) ∧ Grow w3 w') (fun e _ => 2 + k / 8 - (intOf (e 32)).toNat)
    ⟨0, [sv], by omega, by simp [upd, updO, ev], by simp [upd, updO, ev], by simp [upd, updO, ev], by simp [upd, updO, ev], by simp [upd, updO, ev], rfl, by simpa [upd, updO, ev] using own_base ho5 (by have := hg4.size; omega), hD5, hg35⟩ ?_
  clear hD5 ho5 hsv hsc
  rintro e w7 ⟨i, vs, hi, e32, e31, e0, e1, e7, hvl, ho7, hD7, hg7⟩
  by_cases hlt : i < 2 + k / 8
  · simp (maxSteps := 1000000) (disch := omega) only [↓sy1, sy2, sy3, readOK, sy5, sy6, Nat.reduceEqDiff, ↓reduceIte, sy7, sy8, sy9, sya, oneOf, syb, syc, Nat.reduceAdd, Nat.reduceMul, syd, sye, syf, syg, syh, reduceCtorEq, F7_L0, e32, e31, e0, e1, e7, Int.ofNat_lt, hlt, decide_true]
    refine mkz_rule (fun zv w8 hg8 hz => ?_)
    have hzc := (Has.own hz).isCell
    simp (maxSteps := 1000000) (disch := omega) only [↓sy1, sy2, sy3, readOK, sy5, sy6, Nat.reduceEqDiff, ↓reduceIte, sy7, sy8, sy9, sya, oneOf, syb, syc, Nat.reduceAdd, Nat.reduceMul, syd, sye, syf, syg, syh, reduceCtorEq, fill_one, oneF_cell hzc]
    have hga : Grow w8 (w8.alloc (.cells #[zv] 46)) := (Keep.refl _ _).alloc _
    have hD8 := hD7.snoc hg8 hg7.size hz
    refine app_own elemR (by simp only [upd_at, Nat.reduceEqDiff, reduceIte, ev_tmp, ev_const, List.map_cons, List.map_nil]) (by simp only [upd_at, Nat.reduceEqDiff, reduceIte, ev_tmp, ev_const, List.map_cons, List.map_nil]) (own_grow (own_grow ho7 hg8) hga) Has.new1 (m := 1) rfl (by simpa using hzc) (by omega) (by omega) (by have := hga.size; have := hg8.size; have := hg7.size; omega) ?_
    intro lv' w9 ho9 hg9
    simp (maxSteps := 1000000) (disch := omega) only [↓sy1, sy2, sy3, readOK, sy5, sy6, Nat.reduceEqDiff, ↓reduceIte, sy7, sy8, sy9, sya, oneOf, syb, syc, Nat.reduceAdd, Nat.reduceMul, syd, sye, syf, syg, syh, reduceCtorEq, e32, e31, e0, e1, e7]
    have hkk := Keep.grown hg9
    refine R_out ⟨⟨i + 1, vs ++ [zv], by omega, rfl, by simp [hvl], ho9, ?_, ((hg7.trans hg8).trans hga).then hkk (fun b hb hh => ?_)⟩, by simp only [intOf]; omega⟩
    · rw [show (superB c.N k :: List.replicate (i + 1) zsec) = (superB c.N k :: List.replicate i zsec) ++ [zsec] from by rw [List.replicate_succ']; rfl]
      refine (hD8.grow hga).keep hkk (fun v hv b hb hh => ?_)
      obtain ⟨j, hj, rfl⟩ := List.getElem_of_mem hv
      have hrow := (hD8.grow hga).row j _ (((superB c.N k :: List.replicate i zsec) ++ [zsec])[j]'(by rw [← hD8.len]; exact hj)) (List.getElem?_eq_getElem hj) (List.getElem?_eq_getElem _)
      exact own_ne hrow (own_grow (own_grow ho7 hg8) hga) (by decide) hb hh.symm
    · have := (World.ownsRow.lt ho7 b hh.symm).1; omega
  have hie : i = 2 + k / 8 := by omega
  subst hie
  rw [show 2 + k / 8 + 1 = 3 + k / 8 from by omega] at ho7 hvl
  have hD7 : DRows w3.heap.size w7 vs (made0 c.N k) := hD7
  obtain ⟨lv1, e8⟩ : ∃ lv1, e 8 = lv1 := ⟨_, rfl⟩
  rw [e8] at ho7
  obtain ⟨a1, ha1, hc1, _⟩ := (Has.own ho7).idx (i := 1) (by omega)
  have ha1 : iaF 1 lv1 (.int .i64 1) = some (.pointer (some a1)) := ha1
  obtain ⟨a2, w8, ha2, hc2, hst, hD8, hk8⟩ := hD7.store (i := 1) (j := 0) (l := zsec) (List.getElem?_eq_getElem (by omega)) (by rw [made0, show (1 : Nat) = 0 + 1 from rfl, List.getElem?_cons_succ, List.getElem?_replicate, if_pos (by omega)]) (by omega) zsec_length 1
  have ha2 : iaF 1 (vs[1]'(by omega)) (.int .i64 0) = some (.pointer (some a2)) := ha2
  have hst : stF w7 (.pointer (some a2)) (.int .u8 1) = some (undef, w8) := hst
  have hD8 : DRows w3.heap.size w8 vs (madeN c.N k 0) := by rw [madeN_zero]; exact hD8
  have hvB : ∀ v ∈ vs, ∀ b, v.ownBlock = some b → w3.heap.size ≤ b := fun v hv b hb => (hD8.lt hv hb).1
  have hne8 : ∀ v ∈ vs, ∀ b, lv1.ownBlock = some b → v.ownBlock ≠ some b := fun v hv b hb hh => by
    obtain ⟨j, hj, rfl⟩ := List.getElem_of_mem hv
    have hrow := hD7.row j _ ((made0 c.N k)[j]'(by rw [← hD7.len]; exact hj)) (List.getElem?_eq_getElem hj) (List.getElem?_eq_getElem _)
    exact own_ne hrow ho7 (by decide) hh hb
  have ho8 := own_keep ho7 hk8 (fun b hb hh => hne8 _ (List.getElem_mem _) b hb hh)
  have hg8 : Grow w3 w8 := hg7.then hk8 (fun b hb hh => by have := hvB _ (List.getElem_mem _) b hh; omega)
  simp (maxSteps := 1000000) (disch := omega) only [↓sy1, sy2, sy3, readOK, sy5, sy6, Nat.reduceEqDiff, ↓reduceIte, sy7, sy8, sy9, sya, oneOf, syb, syc, Nat.reduceAdd, Nat.reduceMul, syd, sye, syf, syg, syh, reduceCtorEq, F7_L0, e32, e31, e0, e1, e7, e8, Int.ofNat_lt, Nat.lt_irrefl, decide_false, ha1, hc1, ha2, hst]
  refine call0 (firstc_spec (hmc hg8) (by omega)) ?_
  rintro _ w8 ⟨rfl, rfl⟩
  simp (maxSteps := 1000000) (disch := omega) only [↓sy1, sy2, sy3, readOK, sy5, sy6, Nat.reduceEqDiff, ↓reduceIte, sy7, sy8, sy9, sya, oneOf, syb, syc, Nat.reduceAdd, Nat.reduceMul, syd, sye, syf, syg, syh, reduceCtorEq]
  clear hD7 ho7 hc1 hst hk8 hg7 e32 e31 hc2
  refine loop_rule (fun e w' => ∃ i : Nat, i ≤ 3 + k / 8 ∧ e 45 = .int .i64 i ∧ e 44 = .int .i64 ((3 + k / 8 : Nat) : Int) ∧ e 0 = .pointer (some ⟨p, 0, none⟩) ∧ e 7 = .pointer (some ⟨m, 0, none⟩) ∧ e 8 = lv1 ∧ w'.ownsRow w3.heap.size 46 1 lv1 (3 + k / 8) vs ∧ DRows w3.heap.size w' vs (madeN c.N k i) ∧ Grow w3 w') (fun e _ => 3 + k / 8 - (intOf (e 45)).toNat)
    ⟨0, by omega, by simp [upd, updO, ev], by simp [upd, updO, ev], by simp [upd, updO, ev, e0], by simp [upd, updO, ev, e7], by simp [upd, updO, ev, e8], ho8, hD8, hg8⟩ ?_
  clear e0 e1 e7 e8 ho8 hD8 hg8
  rintro e w9 ⟨i, hi, e45, e44, e0, e7, e8, ho9, hD9, hg9⟩
  by_cases hlt : i < 3 + k / 8
  · simp (maxSteps := 1000000) (disch := omega) only [↓sy1, sy2, sy3, readOK, sy5, sy6, Nat.reduceEqDiff, ↓reduceIte, sy7, sy8, sy9, sya, oneOf, syb, syc, Nat.reduceAdd, Nat.reduceMul, syd, sye, syf, syg, syh, reduceCtorEq, F7_L1, e45, e44, e0, e7, e8, Int.ofNat_lt, hlt, decide_true]
    refine draw7_0 (fun _ => False) ?_
    have hgd : Grow w9 w9.drew := (Keep.refl _ _).drew
    have ho10 := own_grow ho9 hgd
    have hD10 := hD9.grow hgd
    have hg10 := hg9.trans hgd
    generalize w9.drew = w10 at hgd ho10 hD10 hg10 ⊢
    obtain ⟨a1, ha1, hc1, _⟩ := (Has.own ho10).idx (i := 2) (by omega)
    have ha1 : iaF 1 lv1 (.int .i64 2) = some (.pointer (some a1)) := ha1
    have hbl := bitRow_length i
    obtain ⟨z, hz1, hz2⟩ := shl_or (x := (bitRow i).getD (i / 8) 0) (i := i % 8) (by omega)
    obtain ⟨a2, w11, ha2, hc2, hst, hD11, hk11⟩ := hD10.store (i := 2) (j := i / 8) (l := bitRow i) (List.getElem?_eq_getElem (by omega)) madeN_row (by omega) hbl (UInt8.ofNat (((bitRow i).getD (i / 8) 0).toNat ||| 2 ^ (i % 8)))
    rw [madeN_step ((bitRow i).set (i / 8) (UInt8.ofNat (((bitRow i).getD (i / 8) 0).toNat ||| 2 ^ (i % 8)))) rfl] at hD11
    simp (maxSteps := 1000000) (disch := omega) only [↓sy1, sy2, sy3, readOK, sy5, sy6, Nat.reduceEqDiff, ↓reduceIte, sy7, sy8, sy9, sya, oneOf, syb, syc, Nat.reduceAdd, Nat.reduceMul, syd, sye, syf, syg, syh, reduceCtorEq, PL7_0, e45, e44, e0, e7, e8, ha1, hc1, tdiv8, tmod8, ha2, hc2, hz1, hz2, hst]
    have ho11 := own_keep ho10 hk11 (fun b hb hh => hne8 _ (List.getElem_mem _) b hb hh)
    exact R_out ⟨⟨i + 1, by omega, rfl, ho11, hD11, hg10.then hk11 (fun b hb hh => by have := hvB _ (List.getElem_mem _) b hh; omega)⟩, by simp only [intOf]; omega⟩
  have hie : i = 3 + k / 8 := by omega
  subst hie
  simp (maxSteps := 1000000) (disch := omega) only [↓sy1, sy2, sy3, readOK, sy5, sy6, Nat.reduceEqDiff, ↓reduceIte, sy7, sy8, sy9, sya, oneOf, syb, syc, Nat.reduceAdd, Nat.reduceMul, syd, sye, syf, syg, syh, reduceCtorEq, F7_L1, e45, e44, e0, e7, e8, Int.ofNat_lt, Nat.lt_irrefl, decide_false]
  refine call0 (firstc_spec (hmc hg9) (by omega)) ?_
  rintro _ w9 ⟨rfl, rfl⟩
  simp (maxSteps := 1000000) (disch := omega) only [↓sy1, sy2, sy3, readOK, sy5, sy6, Nat.reduceEqDiff, ↓reduceIte, sy7, sy8, sy9, sya, oneOf, syb, syc, Nat.reduceAdd, Nat.reduceMul, syd, sye, syf, syg, syh, reduceCtorEq]
  refine call0 (numbers_spec (n := 3 + k / 8) (by omega)) ?_
  rintro nv w10 ⟨hnv, hg10⟩
  have hg310 := hg9.trans hg10
  have hg010 := hg03.trans hg310
  have hx10 : Ext0 G w1 (G.upto w1.heap.size (fun _ => 0) (fun _ => maxLen)) w10 := .upto hg010 _ _
  have hown : ∀ b, w1.heap.size ≤ b → (G.upto w1.heap.size (fun _ => 0) (fun _ => maxLen)).own b = 0 := fun b hb => (upto_own hb).1
  have hM10 : MapC (G.upto w1.heap.size (fun _ => 0) (fun _ => maxLen)) κ μ w10 m p lq came c k := ⟨h.ext hx10 id id id, hg310.gheap hb3, hown m hmB, hn6, by omega, by omega⟩
  have hD10 := hD9.grow hg10
  have ho10 := own_grow ho9 hg10
  have hlv : Zero (G.upto w1.heap.size (fun _ => 0) (fun _ => maxLen)) w10 lv1 vs := ⟨Has.own ho10, fun b hb _ => ⟨(World.ownsRow.lt ho10 b hb).2, hown b (by have := (World.ownsRow.lt ho10 b hb).1; have := hg03.size; omega)⟩⟩
  have hrows : ∀ (i : Nat) (v : Value) (l : List UInt8), vs[i]? = some v → (madeN c.N k (3 + k / 8))[i]? = some l → Zero (G.upto w1.heap.size (fun _ => 0) (fun _ => maxLen)) w10 v (bs l) := fun i v l hv hl => by
    have hrow := hD10.row i v l hv hl
    exact ⟨Has.own hrow, fun b hb _ => ⟨(World.ownsRow.lt hrow b hb).2, hown b (by have := (World.ownsRow.lt hrow b hb).1; have := hg03.size; omega)⟩⟩
  generalize (G.upto w1.heap.size (fun _ => 0) (fun _ => maxLen)) = G10 at hx10 hM10 hlv hrows
  simp (maxSteps := 1000000) (disch := omega) only [↓sy1, sy2, sy3, readOK, sy5, sy6, Nat.reduceEqDiff, ↓reduceIte, sy7, sy8, sy9, sya, oneOf, syb, syc, Nat.reduceAdd, Nat.reduceMul, syd, sye, syf, syg, syh, reduceCtorEq]
  refine call0 (fits_spec hM10 (l := zs (List.range (3 + k / 8))) hnv (by simp [zs]; omega)) ?_
  rintro _ w11 ⟨rfl, hg11⟩
  have hlenl : ∀ w', lenF w' 0 lv1 = some (.int .i64 ((3 + k / 8 : Nat) : Int)) := fun w' => by rw [hlv.1.len, hvl]
  simp (maxSteps := 1000000) (disch := omega) only [↓sy1, sy2, sy3, readOK, sy5, sy6, Nat.reduceEqDiff, ↓reduceIte, sy7, sy8, sy9, sya, oneOf, syb, syc, Nat.reduceAdd, Nat.reduceMul, syd, sye, syf, syg, syh, reduceCtorEq, e0, e7, e8, fits_room (c := c) (l := zs (List.range (3 + k / 8))) (by simp [zs]; omega), hlenl]
  have hx0 : Ext0 G10 w10 G10 w11 := .grow hg11
  refine loop_rule (fun e w' => ∃ (i : Nat) (G' : Gh), i ≤ 3 + k / 8 ∧ e 69 = .int .i64 i ∧ e 68 = .int .i64 ((3 + k / 8 : Nat) : Int) ∧ e 67 = lv1 ∧ e 0 = .pointer (some ⟨p, 0, none⟩) ∧ e 7 = .pointer (some ⟨m, 0, none⟩) ∧
      MapC G' κ μ w' m p lq came (wrN c (madeN c.N k (3 + k / 8)) i) k ∧ Zero G' w' lv1 vs ∧ (∀ (i : Nat) (v : Value) (l : List UInt8), vs[i]? = some v → (madeN c.N k (3 + k / 8))[i]? = some l → Zero G' w' v (bs l)) ∧ Ext (fun x => x = μ) G w1 G' w') (fun e _ => 3 + k / 8 - (intOf (e 69)).toNat)
    ⟨0, G10, by omega, by simp [upd, updO, ev], by simp [upd, updO, ev], by simp [upd, updO, ev, e8], by simp [upd, updO, ev, e0], by simp [upd, updO, ev, e7], hM10.grow hg11, hlv.ext hx0 id, fun i v l hv hl => (hrows i v l hv hl).ext hx0 id, (hx10.trans hx0).mono (fun _ h => h.elim)⟩ ?_
  clear e0 e7 e8 e45 e44 hlv hrows hM10 hx10 hx0
  rintro e w12 ⟨i, G12, hi, e69, e68, e67, e0, e7, hM12, hlv, hrows, hx12⟩
  by_cases hlt : i < 3 + k / 8
  · have hml := madeN_length c.N k (3 + k / 8)
    obtain ⟨a1, ha1, hc1, _⟩ := hlv.1.idx (i := i) (by omega)
    have hli : (madeN c.N k (3 + k / 8))[i]? = some ((madeN c.N k (3 + k / 8)).getD i []) := by rw [List.getD_eq_getElem?_getD, List.getElem?_eq_getElem (by omega)]; rfl
    have hl5 := madeN_len512 hli
    have hrow := hrows i vs[i] _ (List.getElem?_eq_getElem (by omega)) hli
    have hwd := wrN_dirty (c := c) (ls := madeN c.N k (3 + k / 8)) i (by omega)
    have hwN := wrN_N c (madeN c.N k (3 + k / 8)) i
    have hcap : (wrN c (madeN c.N k (3 + k / 8)) i).cap = c.cap := by simp only [Csh.cap, hwN.2.2.1]
    have hcode : (wrN c (madeN c.N k (3 + k / 8)) i).wcode i 512 = 0 := wcode_zero (by rw [hwN.1]; omega) rfl (fun _ => by rw [hcap]; omega)
    simp (maxSteps := 1000000) (disch := omega) only [↓sy1, sy2, sy3, readOK, sy5, sy6, Nat.reduceEqDiff, ↓reduceIte, sy7, sy8, sy9, sya, oneOf, syb, syc, Nat.reduceAdd, Nat.reduceMul, syd, sye, syf, syg, syh, reduceCtorEq, F7_L2, e69, e68, e67, e0, e7, Int.ofNat_lt, hlt, decide_true, ha1, hc1]
    refine call0 (cswrite_spec hM12.cache (n := i) (b := (madeN c.N k (3 + k / 8)).getD i []) hrow.1 (by omega)) ?_
    rintro _ w13 ⟨rfl, G13, hc13, hx13⟩
    rw [hl5, if_pos hcode] at hc13
    have h0 : ¬ (0 = μ) := fun hh => hne.2.1 hh.symm
    simp (maxSteps := 1000000) (disch := omega) only [↓sy1, sy2, sy3, readOK, sy5, sy6, Nat.reduceEqDiff, ↓reduceIte, sy7, sy8, sy9, sya, oneOf, syb, syc, Nat.reduceAdd, Nat.reduceMul, syd, sye, syf, syg, syh, reduceCtorEq, e69, e68, e67, e0, e7]
    exact R_out ⟨⟨i + 1, G13, by omega, rfl, hM12.put hx13 h0 hc13 rfl, hlv.ext hx13 h0, fun i v l hv hl => (hrows i v l hv hl).ext hx13 h0, hx12.trans hx13⟩, by simp only [intOf]; omega⟩
  have hie : i = 3 + k / 8 := by omega
  subst hie
  simp (maxSteps := 1000000) (disch := omega) only [↓sy1, sy2, sy3, readOK, sy5, sy6, Nat.reduceEqDiff, ↓reduceIte, sy7, sy8, sy9, sya, oneOf, syb, syc, Nat.reduceAdd, Nat.reduceMul, syd, sye, syf, syg, syh, reduceCtorEq, F7_L2, e69, e68, e67, e0, e7, Int.ofNat_lt, Nat.lt_irrefl, decide_false]
  obtain ⟨g0, g1, g2⟩ := madeN_get c.N k (3 + k / 8)
  refine R_out ⟨m, G12, rfl, by omega, ⟨?_, Alc.made hk g0 g1 g2⟩, hx12⟩
  rw [upto1_length]; exact hM12
end
end Go.Proofs.YtienelpepioggaaGreat

/- A map is opened; a cache for the laws; what must be whatever is asked. -/
namespace Go.Proofs.YtienelpepioggaaGreat
open Go
set_option linter.unusedSimpArgs false
open Go.RowKit (intOf)
def beN (l : List UInt8) : Nat := l.foldl (fun n x => n * 256 + x.toNat) 0
theorem beN_snoc {l : List UInt8} {i : Nat} (h : i < l.length) : beN (l.take (i + 1)) = beN (l.take i) * 256 + l[i].toNat := by
  rw [List.take_add_one, List.getElem?_eq_getElem h, beN, List.foldl_append]; rfl
theorem shl_256 {n : Nat} (h : n < 16777216) : binV .shl (.int .i64 (n : Int)) (.int .u64 8) = some (.int .i64 ((n * 256 : Nat) : Int)) := by
  simp only [binV]
  rw [if_neg (by omega)]
  have h8 : (2 : Int) ^ (min (Int.toNat 8) IntKind.i64.bits) = 256 := by decide
  rw [h8, wrap_i64 (by omega)]
  congr 2
theorem or_256 {a b : Nat} (ha : a < 16777216) (hb : b < 256) : binV .or (.int .i64 ((a * 256 : Nat) : Int)) (.int .i64 (b : Int)) = some (.int .i64 ((a * 256 + b : Nat) : Int)) := by
  simp only [binV, if_true]
  have h1 : (BitVec.ofInt IntKind.i64.bits ((a * 256 : Nat) : Int) ||| BitVec.ofInt IntKind.i64.bits (b : Int)).toNat = a * 256 + b := by
    rw [BitVec.toNat_or, BitVec.ofInt_natCast, BitVec.ofInt_natCast, BitVec.toNat_ofNat, BitVec.toNat_ofNat]
    have hbits : (2 : Nat) ^ IntKind.i64.bits = 18446744073709551616 := by decide
    rw [hbits, Nat.mod_eq_of_lt (by omega), Nat.mod_eq_of_lt (by omega)]
    have := Nat.shiftLeft_add_eq_or_of_lt (i := 8) (show b < 2 ^ 8 by omega) a
    rw [Nat.shiftLeft_eq] at this
    exact this.symm
  rw [h1, wrap_i64 (by omega)]
section
variable {G : Gh} {κ μ p lq came : Nat} {w : World} {c : Csh}
end
end Go.Proofs.YtienelpepioggaaGreat

/- What must be whatever is asked (maps); a nil map. -/
namespace Go.Proofs.YtienelpepioggaaGreat
open Go
set_option linter.unusedSimpArgs false
open Go.RowKit (intOf)
theorem firstN_upto {n N : Nat} (h : n < N) : firstN (upto1 n N) = n :=
  firstN_eq (fun j hj => by rw [upto1_get (by omega), decide_eq_true hj]) (by rw [upto1_get h, decide_eq_false (by omega)])
theorem upto1_set {n N : Nat} (h : n < N) : (upto1 n N).set n true = upto1 (n + 1) N := by
  refine List.ext_getElem? fun i => ?_
  rw [List.getElem?_set]
  split
  · rename_i he; subst he
    rw [upto1_length, if_pos h, upto1_get h, decide_eq_true (by omega)]
  · by_cases hi : i < N
    · rw [upto1_get hi, upto1_get hi]
      refine congrArg some (decide_eq_decide.2 ?_)
      omega
    · rw [List.getElem?_eq_none (by rw [upto1_length]; omega), List.getElem?_eq_none (by rw [upto1_length]; omega)]
theorem freeN_upto : ∀ {n N : Nat}, n ≤ N → freeN (upto1 n N) = N - n := fun {n N} h => by
  have hs : upto1 n N = List.replicate n true ++ List.replicate (N - n) false := by
    refine List.ext_getElem? fun i => ?_
    by_cases hi : i < N
    · rw [upto1_get hi]
      by_cases hin : i < n
      · rw [List.getElem?_append_left (by simpa using hin), List.getElem?_replicate, if_pos hin, decide_eq_true hin]
      · rw [List.getElem?_append_right (by simp; omega), List.getElem?_replicate, if_pos (by simp; omega), decide_eq_false hin]
    · rw [List.getElem?_eq_none (by rw [upto1_length]; omega), List.getElem?_eq_none (by simp; omega)]
  rw [hs, freeN, List.count_append, List.count_replicate, List.count_replicate]; simp
section
variable {c : Csh} {n : Nat}
theorem wrN_facts (ls : List (List UInt8)) (h : n ≤ c.N) : (wrN c ls n).N = c.N ∧ (wrN c ls n).D = c.D ∧ (wrN c ls n).size = c.size ∧ (wrN c ls n).cap = c.cap ∧ (wrN c ls n).dirty.length ≤ c.dirty.length + n := by
  obtain ⟨h1, h2, h3, _⟩ := wrN_N c ls n
  exact ⟨h1, h2, h3, by simp only [Csh.cap, h3], wrN_dirty n h⟩
end
/-- From c to c' nothing but at most d pages more that were written. -/
def Step (c c' : Csh) (d : Nat) : Prop := c'.N = c.N ∧ c'.D = c.D ∧ c'.size = c.size ∧ c'.cap = c.cap ∧ c'.dirty.length ≤ c.dirty.length + d
section
variable {G : Gh} {κ μ m p lq came : Nat} {w : World} {c : Csh} {P I : List Bool}
theorem make_ok (h : CacheS G κ μ w p lq came c) (hn6 : κ ≠ 6 ∧ μ ≠ 6) {k : Nat} (hk : mayA c.N k) (hroom : c.dirty.length + (3 + k / 8) ≤ c.cap) :
    Calls Tryz.prog 7 #[.pointer (some ⟨p, 0, none⟩), .int .i64 k] w (Ret fun v w' => ∃ m G' c', v = .tuple #[.pointer (some ⟨m, 0, none⟩), .int .i64 0] ∧ w.heap.size ≤ m ∧
      MapAt G' κ μ w' m p lq came c' (upto1 (3 + k / 8) c.N) (upto1 1 k) ∧ Step c c' (3 + k / 8) ∧ Ext (fun x => x = μ) G w G' w') := by
  have hk' := hk
  unfold mayA at hk'
  exact Ret.mono (make_spec h hn6 hk hroom) fun _ _ ⟨m, G', h1, h2, h3, h4⟩ => ⟨m, G', _, h1, h2, h3, wrN_facts _ (by omega), h4⟩
theorem Step.zero (c : Csh) : Step c c 0 := ⟨rfl, rfl, rfl, rfl, Nat.le_refl _⟩
theorem Step.trans {c c' c'' : Csh} {d d' : Nat} (h : Step c c' d) (h' : Step c' c'' d') : Step c c'' (d + d') :=
  ⟨h'.1.trans h.1, h'.2.1.trans h.2.1, h'.2.2.1.trans h.2.2.1, h'.2.2.2.1.trans h.2.2.2.1, by have := h.2.2.2.2; have := h'.2.2.2.2; omega⟩
theorem Step.le {c c' : Csh} {d d' : Nat} (h : Step c c' d) (hd : d ≤ d') : Step c c' d' := ⟨h.1, h.2.1, h.2.2.1, h.2.2.2.1, by have := h.2.2.2.2; omega⟩
theorem usedi_ok (h : MapAt G κ μ w m p lq came c P I) {n : Int} :
    Calls Tryz.prog 69 #[.pointer (some ⟨m, 0, none⟩), .int .i64 n] w (Ret fun v w' => v = .bool (usedC I n) ∧ ∃ G', Ext (fun x => x = μ) G w G' w' ∧ MapAt G' κ μ w' m p lq came c P I) := by
  apply enter69
  apply R_in
  simp (maxSteps := 1000000) (disch := omega) only [↓sy1, sy2, sy3, readOK, sy5, sy6, Nat.reduceEqDiff, ↓reduceIte, sy7, sy8, sy9, sya, oneOf, syb, syc, Nat.reduceAdd, Nat.reduceMul, syd, sye, syf, syg, syh, reduceCtorEq, F69]
  refine call0 (is_spec h.1 (pg := 1) (.inl rfl) (L := I) h.2.i (n := n)) ?_
  rintro _ w2 ⟨rfl, G2, hx2, h2⟩
  simp (maxSteps := 1000000) (disch := omega) only [↓sy1, sy2, sy3, readOK, sy5, sy6, Nat.reduceEqDiff, ↓reduceIte, sy7, sy8, sy9, sya, oneOf, syb, syc, Nat.reduceAdd, Nat.reduceMul, syd, sye, syf, syg, syh, reduceCtorEq]
  exact R_out ⟨G2, hx2, h2, h.2⟩
/-- The cache of a map commits. -/
theorem mcommit_ok (h : MapAt G κ μ w m p lq came c P I) (ho : c.D.ops.length < 700000) :
    Calls Tryz.prog 9 #[.pointer (some ⟨p, 0, none⟩)] w (Ret fun v w' => v = .int .i64 0 ∧ ∃ G', Ext (fun x => x = κ ∨ x = μ) G w G' w' ∧ MapAt G' κ μ w' m p lq came c.commit P I) := by
  have hne := h.1.cache.ne
  obtain ⟨row, hok⟩ := h.1.cache.oks
  refine Ret.mono (cscommit_spec h.1.cache ho) fun _ _ ⟨h2, G', h3, h4⟩ => ⟨h2, G', h4, h.1.put h4 ?_ h3 (Csh.commit_N c), ?_⟩
  · rintro (hh | hh)
    · exact hne.2.2 hh.symm
    · exact hne.2.1 hh.symm
  · have h5 := h.2
    exact h5.congr (Csh.commit_N c) fun n hn => Csh.commit_page (c := { c with row := row }) hok (by
      have := h.facts.2.2.2.2.1
      show n < c.N
      omega)
theorem commit_facts {c : Csh} (h : c.OkS) : c.commit.N = c.N ∧ c.commit.dirty = [] ∧ c.commit.cap = c.cap ∧ c.commit.size = c.size ∧ c.commit.D.ops.length ≤ c.D.ops.length + 206 :=
  ⟨Csh.commit_N c, Csh.dirty_commit c, rfl, rfl, h.cops.1⟩
end
end Go.Proofs.YtienelpepioggaaGreat

/- Inodes in plain words: numbers as bytes, records, pages of a file. -/
namespace Go.Proofs.YtienelpepioggaaGreat
open Go
set_option linter.unusedSimpArgs false
/-- A number as so many bytes, the highest first. -/
def beB : Nat → Nat → List UInt8
  | 0, _ => []
  | m + 1, n => UInt8.ofNat (n / 256 ^ m) :: beB m n
theorem beB_length : ∀ m n, (beB m n).length = m
  | 0, _ => rfl
  | m + 1, n => by rw [beB, List.length_cons, beB_length m n]
theorem beB_get : ∀ {m n i : Nat}, i < m → (beB m n)[i]? = some (UInt8.ofNat (n / 256 ^ (m - 1 - i)))
  | m + 1, n, 0, _ => by simp [beB]
  | m + 1, n, i + 1, h => by
    rw [beB, List.getElem?_cons_succ, beB_get (m := m) (by omega)]
    rw [show m + 1 - 1 - (i + 1) = m - 1 - i from by omega]
theorem beN_go : ∀ (l : List UInt8) (a : Nat), l.foldl (fun n x => n * 256 + x.toNat) a = a * 256 ^ l.length + beN l
  | [], a => by simp [beN]
  | x :: l, a => by
    have h : beN (x :: l) = (0 * 256 + x.toNat) * 256 ^ l.length + beN l := beN_go l _
    rw [List.foldl_cons, beN_go l, h, List.length_cons, Nat.pow_succ, Nat.add_mul, Nat.mul_assoc, Nat.mul_comm 256, Nat.zero_mul, Nat.zero_add, Nat.add_assoc]
theorem beN_cons (x : UInt8) (l : List UInt8) : beN (x :: l) = x.toNat * 256 ^ l.length + beN l := by
  rw [beN, List.foldl_cons, beN_go]; simp
theorem beN_beB : ∀ {m n : Nat}, n < 256 ^ m → beN (beB m n) = n
  | 0, n, h => by simp at h; subst h; rfl
  | m + 1, n, h => by
    rw [beB, beN_cons, beB_length]
    have hd : n / 256 ^ m < 256 := Nat.div_lt_of_lt_mul (by rw [Nat.pow_succ] at h; exact h)
    have hmod : beB m n = beB m (n % 256 ^ m) := by
      refine List.ext_getElem? fun i => ?_
      by_cases hi : i < m
      · rw [beB_get hi, beB_get hi]
        have h1 : 256 ^ m = 256 ^ (m - 1 - i) * 256 ^ (i + 1) := by rw [← Nat.pow_add]; congr 1; omega
        have h2 : (n % 256 ^ m) / 256 ^ (m - 1 - i) = (n / 256 ^ (m - 1 - i)) % 256 ^ (i + 1) := by rw [h1, Nat.mod_mul_right_div_self]
        rw [h2]
        congr 1
        apply UInt8.toNat_inj.1
        rw [UInt8.toNat_ofNat', UInt8.toNat_ofNat', show (2 : Nat) ^ 8 = 256 from rfl, Nat.pow_succ, Nat.mul_comm (256 ^ i) 256, Nat.mod_mul_right_mod]
      · rw [List.getElem?_eq_none (by rw [beB_length]; omega), List.getElem?_eq_none (by rw [beB_length]; omega)]
    rw [hmod, beN_beB (Nat.mod_lt _ (Nat.pow_pos (by omega))), UInt8.toNat_ofNat', Nat.mod_eq_of_lt hd]
    exact Nat.div_add_mod' n (256 ^ m)
/-- A part of a list put in place of as much of it. -/
def patch (l : List UInt8) (o : Nat) (b : List UInt8) : List UInt8 := l.take o ++ b ++ l.drop (o + b.length)
theorem patch_length {l : List UInt8} {o : Nat} {b : List UInt8} (h : o + b.length ≤ l.length) : (patch l o b).length = l.length := by
  simp [patch]; omega
theorem patch_in {l : List UInt8} {o : Nat} {b : List UInt8} (h : o + b.length ≤ l.length) : ((patch l o b).drop o).take b.length = b := by
  have ho : (l.take o).length = o := by rw [List.length_take]; omega
  rw [patch, List.append_assoc, List.drop_left' ho, List.take_left' rfl]
theorem patch_out {l : List UInt8} {o i : Nat} {b : List UInt8} (h : o + b.length ≤ l.length) (hi : i < o ∨ o + b.length ≤ i) : (patch l o b)[i]? = l[i]? := by
  have ho : (l.take o).length = o := by rw [List.length_take]; omega
  rw [patch, List.append_assoc]
  rcases hi with hi | hi
  · rw [List.getElem?_append_left (by omega), List.getElem?_take, if_pos hi]
  · rw [List.getElem?_append_right (by omega), List.getElem?_append_right (by omega), ho, List.getElem?_drop]
    congr 1; omega
/-- How many pages so many bytes want. -/
def pagesN (size : Nat) : Nat := (size + 511) / 512
def needN (size : Nat) : Nat := if 10 < pagesN size then pagesN size + 1 else pagesN size
end Go.Proofs.YtienelpepioggaaGreat

/- An inode in plain words: its cells in memory, its record, its indirect page. -/
namespace Go.Proofs.YtienelpepioggaaGreat
open Go
set_option linter.unusedSimpArgs false
/-- An inode: kind, mode, links, size, the pages of its bytes, its indirect page (0: none), its number. -/
structure Opn where
  kind : Nat
  mode : Nat
  links : Nat
  size : Nat
  data : List Nat
  ind : Nat
  i : Nat
def Opn.zero : Opn := ⟨0, 0, 0, 0, [], 0, 0⟩
/-- What stands in cell j of it. -/
def Opn.cell (o : Opn) (j : Nat) : Nat :=
  if j = 0 then o.kind else if j = 1 then o.mode else if j = 2 then o.links else if j = 3 then o.size
  else if j < 14 then o.data.getD (j - 4) 0 else if j = 14 then o.ind else if j = 15 then o.i else o.data.getD (j - 6) 0
def Opn.cells (o : Opn) : List Value := (List.range 144).map fun j => .int .i64 (o.cell j)
theorem Opn.cells_length (o : Opn) : o.cells.length = 144 := by simp [Opn.cells]
theorem Opn.cells_get (o : Opn) {j : Nat} (h : j < 144) : o.cells[j]? = some (.int .i64 (o.cell j)) := by simp [Opn.cells, h]
theorem Opn.cells_one (o : Opn) : ∀ u ∈ o.cells, isCell u = true := by
  intro u hu
  obtain ⟨j, _, rfl⟩ := List.mem_map.1 hu
  rfl
theorem Opn.cells_set {o o' : Opn} {j v : Nat} (hj : j < 144) (h1 : o'.cell j = v) (h2 : ∀ i, i < 144 → i ≠ j → o'.cell i = o.cell i) : o.cells.set j (.int .i64 v) = o'.cells := by
  refine List.ext_getElem? fun i => ?_
  rw [List.getElem?_set]
  by_cases hi : i < 144
  · rw [o.cells_get hi, o'.cells_get hi, o.cells_length]
    split
    · rename_i h; subst h; rw [h1]
    · rename_i h; rw [h2 i hi (fun hh => h hh.symm)]
  · rw [List.getElem?_eq_none (by rw [o.cells_length]; omega), List.getElem?_eq_none (by rw [o'.cells_length]; omega), o.cells_length]
    split
    · rename_i h; subst h; exact absurd hj hi
    · rfl
theorem Opn.zero_cells : Opn.zero.cells = List.replicate 144 (.int .i64 0) := by kernel_rfl
/-- Where page k is named. -/
def slotJ (k : Nat) : Nat := if k < 10 then 4 + k else 6 + k
theorem Opn.cell_slot (o : Opn) {k : Nat} : o.cell (slotJ k) = o.data.getD k 0 := by
  unfold Opn.cell slotJ
  by_cases h : k < 10
  · rw [if_pos h, if_neg (by omega), if_neg (by omega), if_neg (by omega), if_neg (by omega), if_pos (by omega)]
    congr 1; omega
  · rw [if_neg h, if_neg (by omega), if_neg (by omega), if_neg (by omega), if_neg (by omega), if_neg (by omega), if_neg (by omega), if_neg (by omega)]
    congr 1; omega
/-- All cells but those of the pages. -/
theorem Opn.cell_data {o : Opn} {d : List Nat} {i k : Nat} (hi : i ≠ slotJ k) (h : ∀ j, j ≠ k → d.getD j 0 = o.data.getD j 0) : ({ o with data := d } : Opn).cell i = o.cell i := by
  unfold Opn.cell
  unfold slotJ at hi
  by_cases h0 : i = 0
  · rw [if_pos h0, if_pos h0]
  by_cases h1 : i = 1
  · rw [if_neg h0, if_pos h1, if_neg h0, if_pos h1]
  by_cases h2 : i = 2
  · rw [if_neg h0, if_neg h1, if_pos h2, if_neg h0, if_neg h1, if_pos h2]
  by_cases h3 : i = 3
  · rw [if_neg h0, if_neg h1, if_neg h2, if_pos h3, if_neg h0, if_neg h1, if_neg h2, if_pos h3]
  rw [if_neg h0, if_neg h1, if_neg h2, if_neg h3, if_neg h0, if_neg h1, if_neg h2, if_neg h3]
  by_cases h4 : i < 14
  · rw [if_pos h4, if_pos h4]
    exact h _ (by split at hi <;> omega)
  rw [if_neg h4, if_neg h4]
  by_cases h5 : i = 14
  · rw [if_pos h5, if_pos h5]
  by_cases h6 : i = 15
  · rw [if_neg h5, if_pos h6, if_neg h5, if_pos h6]
  rw [if_neg h5, if_neg h6, if_neg h5, if_neg h6]
  exact h _ (by split at hi <;> omega)
theorem getD_snoc {d : List Nat} {x j : Nat} : (d ++ [x]).getD j 0 = if j = d.length then x else d.getD j 0 := by
  rw [List.getD_eq_getElem?_getD, List.getD_eq_getElem?_getD, List.getElem?_append]
  by_cases h : j = d.length
  · rw [if_pos h, if_neg (by omega), h]; simp
  · rw [if_neg h]
    by_cases h2 : j < d.length
    · rw [if_pos h2]
    · rw [if_neg h2, List.getElem?_eq_none (by simp; omega), List.getElem?_eq_none (by omega)]
theorem getD_past {d : List Nat} {j : Nat} (h : d.length ≤ j) : d.getD j 0 = 0 := by
  rw [List.getD_eq_getElem?_getD, List.getElem?_eq_none h]; rfl
theorem getD_take {d : List Nat} {k j : Nat} : (d.take k).getD j 0 = if j < k then d.getD j 0 else 0 := by
  rw [List.getD_eq_getElem?_getD, List.getD_eq_getElem?_getD, List.getElem?_take]
  split <;> rfl
theorem slotJ_lt {k : Nat} (h : k < 138) : slotJ k < 144 := by unfold slotJ; split <;> omega
/-- A page more. -/
theorem Opn.cells_snoc (o : Opn) {x : Nat} (h : o.data.length < 138) : o.cells.set (slotJ o.data.length) (.int .i64 x) = ({ o with data := o.data ++ [x] } : Opn).cells :=
  Opn.cells_set (slotJ_lt h) (by rw [Opn.cell_slot]; simp [getD_snoc]) fun i _ hi => Opn.cell_data hi fun j hj => by rw [getD_snoc, if_neg hj]
/-- A page less. -/
theorem Opn.cells_pop (o : Opn) (h0 : o.data ≠ []) (h : o.data.length ≤ 138) : o.cells.set (slotJ (o.data.length - 1)) (.int .i64 (0 : Nat)) = ({ o with data := o.data.dropLast } : Opn).cells := by
  have hl := List.length_pos_iff.2 h0
  refine Opn.cells_set (slotJ_lt (by omega)) (by rw [Opn.cell_slot]; exact getD_past (by simp)) fun i _ hi => Opn.cell_data hi fun j hj => ?_
  rw [List.dropLast_eq_take, getD_take]
  split
  · rfl
  · exact (getD_past (by omega)).symm
/-- One number more of a row that is read in. -/
theorem Opn.cells_take (o : Opn) {d : List Nat} {k : Nat} (hk : k < 138) : ({ o with data := d.take k } : Opn).cells.set (slotJ k) (.int .i64 (d.getD k 0)) = ({ o with data := d.take (k + 1) } : Opn).cells :=
  Opn.cells_set (o := { o with data := d.take k }) (o' := { o with data := d.take (k + 1) }) (slotJ_lt hk) (by rw [Opn.cell_slot]; simp only [getD_take]; rw [if_pos (by omega)]) fun i _ hi =>
    Opn.cell_data (o := { o with data := d.take k }) (d := d.take (k + 1)) hi fun j hj => by
      simp only [getD_take]
      by_cases h : j < k
      · rw [if_pos h, if_pos (by omega)]
      · rw [if_neg h, if_neg (by omega)]
theorem Opn.cells_ind (o : Opn) (x : Nat) : o.cells.set 14 (.int .i64 x) = ({ o with ind := x } : Opn).cells :=
  Opn.cells_set (o' := { o with ind := x }) (by omega) (by simp [Opn.cell]) fun i _ hi => by simp [Opn.cell, hi]
theorem Opn.cells_size (o : Opn) (x : Nat) : o.cells.set 3 (.int .i64 x) = ({ o with size := x } : Opn).cells :=
  Opn.cells_set (o' := { o with size := x }) (by omega) (by simp [Opn.cell]) fun i _ hi => by simp [Opn.cell, hi]
theorem Opn.cells_kind (o : Opn) (x : Nat) : o.cells.set 0 (.int .i64 x) = ({ o with kind := x } : Opn).cells :=
  Opn.cells_set (o' := { o with kind := x }) (by omega) (by simp [Opn.cell]) fun i _ hi => by simp [Opn.cell, hi]
theorem Opn.cells_mode (o : Opn) (x : Nat) : o.cells.set 1 (.int .i64 x) = ({ o with mode := x } : Opn).cells :=
  Opn.cells_set (o' := { o with mode := x }) (by omega) (by simp [Opn.cell]) fun i _ hi => by simp [Opn.cell, hi]
theorem Opn.cells_links (o : Opn) (x : Nat) : o.cells.set 2 (.int .i64 x) = ({ o with links := x } : Opn).cells :=
  Opn.cells_set (o' := { o with links := x }) (by omega) (by simp [Opn.cell]) fun i _ hi => by simp [Opn.cell, hi]
theorem Opn.cells_i (o : Opn) (x : Nat) : o.cells.set 15 (.int .i64 x) = ({ o with i := x } : Opn).cells :=
  Opn.cells_set (o' := { o with i := x }) (by omega) (by simp [Opn.cell]) fun i _ hi => by simp [Opn.cell, hi]
/-- The eleven numbers of a record. -/
def Opn.num (o : Opn) (k : Nat) : Nat := if k < 10 then o.data.getD k 0 else o.ind
theorem Opn.cell_num (o : Opn) {k : Nat} (h : k < 11) : o.cell (4 + k) = o.num k := by
  unfold Opn.cell Opn.num
  rw [if_neg (by omega), if_neg (by omega), if_neg (by omega), if_neg (by omega)]
  by_cases hk : k < 10
  · rw [if_pos (by omega), if_pos hk]; congr 1; omega
  · rw [if_neg (by omega), if_pos (by omega), if_neg hk]
/-- The bytes of its first numbers; its record; its indirect page. -/
def Opn.nums (o : Opn) (k : Nat) : List UInt8 := (List.range k).flatMap fun k => beB 4 (o.num k)
def Opn.headR (o : Opn) : List UInt8 := [UInt8.ofNat o.kind] ++ beB 2 o.mode ++ beB 2 o.links ++ beB 4 o.size
def Opn.recB (o : Opn) : List UInt8 := o.headR ++ o.nums 11 ++ List.replicate 11 0
def Opn.inds (o : Opn) (k : Nat) : List UInt8 := (List.range k).flatMap fun k => beB 4 (o.data.getD (10 + k) 0)
def Opn.ind4 (o : Opn) : List UInt8 := o.inds 128
theorem flat4_length (f : Nat → Nat) (k : Nat) : ((List.range k).flatMap fun k => beB 4 (f k)).length = 4 * k := by
  induction k with
  | zero => rfl
  | succ k ih => rw [List.range_succ, List.flatMap_append, List.length_append, ih]; simp [beB_length]; omega
theorem flat4_succ (f : Nat → Nat) (k : Nat) : ((List.range (k + 1)).flatMap fun k => beB 4 (f k)) = ((List.range k).flatMap fun k => beB 4 (f k)) ++ beB 4 (f k) := by
  rw [List.range_succ, List.flatMap_append]; simp
theorem flat4_part (f : Nat → Nat) : ∀ {n k : Nat}, k < n → ((((List.range n).flatMap fun k => beB 4 (f k))).drop (4 * k)).take 4 = beB 4 (f k)
  | n + 1, k, h => by
    have hl := flat4_length f n
    have hb := beB_length 4 (f n)
    rw [flat4_succ]
    by_cases hk : k = n
    · subst hk
      rw [List.drop_left' hl, List.take_of_length_le (by omega)]
    · rw [List.drop_append_of_le_length (by omega), List.take_append_of_le_length (by rw [List.length_drop]; omega)]
      exact flat4_part f (by omega)
theorem Opn.nums_length (o : Opn) (k : Nat) : (o.nums k).length = 4 * k := flat4_length _ _
theorem Opn.inds_length (o : Opn) (k : Nat) : (o.inds k).length = 4 * k := flat4_length (fun k => o.data.getD (10 + k) 0) _
theorem Opn.headR_length (o : Opn) : o.headR.length = 9 := by simp [Opn.headR, beB_length]
theorem Opn.recB_length (o : Opn) : o.recB.length = 64 := by simp [Opn.recB, Opn.headR_length, Opn.nums_length]
theorem Opn.ind4_length (o : Opn) : o.ind4.length = 512 := by rw [Opn.ind4, Opn.inds_length]
/-- What is read out of a record. -/
theorem Opn.rec_num (o : Opn) {k : Nat} (h : k < 11) : (o.recB.drop (9 + 4 * k)).take 4 = beB 4 (o.num k) := by
  have h1 := o.headR_length
  have h2 := o.nums_length 11
  rw [Opn.recB, List.append_assoc, ← List.drop_drop, List.drop_left' h1, List.drop_append_of_le_length (by omega), List.take_append_of_le_length (by rw [List.length_drop]; omega)]
  exact flat4_part o.num h
theorem Opn.ind_num (o : Opn) {k : Nat} (h : k < 128) : (o.ind4.drop (4 * k)).take 4 = beB 4 (o.data.getD (10 + k) 0) := flat4_part (fun k => o.data.getD (10 + k) 0) h
/-- Zeros from some place on are filled in order. -/
theorem patch_next {b c : List UInt8} {n : Nat} (h : c.length ≤ n) : patch (b ++ List.replicate n 0) b.length c = b ++ c ++ List.replicate (n - c.length) 0 := by
  unfold patch
  rw [List.take_left, ← List.drop_drop, List.drop_left, List.drop_replicate]
/-- A patch within a patch. -/
theorem patch_patch {l b c : List UInt8} {o j : Nat} (hl : o + b.length ≤ l.length) (hj : j + c.length ≤ b.length) : patch (patch l o b) (o + j) c = patch l o (patch b j c) := by
  have hbl := patch_length (l := b) (o := j) (b := c) hj
  have h1 : (l.take o).length = o := by rw [List.length_take]; omega
  refine List.ext_getElem? fun i => ?_
  have hp := patch_length hl
  by_cases hi : i < o ∨ o + b.length ≤ i
  · rw [patch_out (by rw [hp]; omega) (by omega), patch_out hl hi, patch_out (by rw [hbl]; exact hl) (by rw [hbl]; exact hi)]
  · have e1 : ∀ x : List UInt8, o + x.length ≤ l.length → o ≤ i → i < o + x.length → (patch l o x)[i]? = x[i - o]? := fun x hx h2 h3 => by
      rw [patch, List.append_assoc, List.getElem?_append_right (by omega), h1, List.getElem?_append_left (by omega)]
    rw [e1 (patch b j c) (by rw [hbl]; exact hl) (by omega) (by rw [hbl]; omega)]
    by_cases hi2 : i < o + j ∨ o + j + c.length ≤ i
    · rw [patch_out (by rw [hp]; omega) hi2, e1 b hl (by omega) (by omega), patch_out hj (by omega)]
    · have e2 : ∀ (y : List UInt8) (p : Nat), p + c.length ≤ y.length → p ≤ p + (i - (o + j)) → (patch y p c)[p + (i - (o + j))]? = c[i - (o + j)]? := fun y p hy _ => by
        have h2 : (y.take p).length = p := by rw [List.length_take]; omega
        rw [patch, List.append_assoc, List.getElem?_append_right (by omega), h2, List.getElem?_append_left (by omega)]
        congr 1; omega
      have e3 := e2 (patch l o b) (o + j) (by rw [hp]; omega) (by omega)
      have e4 := e2 b j hj (by omega)
      rw [show o + j + (i - (o + j)) = i from by omega] at e3
      rw [show j + (i - (o + j)) = i - o from by omega] at e4
      rw [e3, e4]
end Go.Proofs.YtienelpepioggaaGreat

/- Numbers put into bytes and read out of them; a file's slots; how many pages. -/
namespace Go.Proofs.YtienelpepioggaaGreat
open Go
set_option linter.unusedSimpArgs false
open Go.RowKit (intOf)
/-- A row of bytes in its block. -/
def ByteRow (w : World) (g : Nat) (ls : List UInt8) : Prop := ∃ cur : Array Value, w.heap[g]? = some (.cells cur 5 (0, 0)) ∧ ls.length ≤ cur.size ∧ cur.toList.take ls.length = bs ls
section
variable {w w' : World} {g : Nat} {ls : List UInt8}
theorem ByteRow.cell (h : ByteRow w g ls) {i : Nat} (hi : i < ls.length) : w.cell? ⟨g, i, none⟩ = some (.int .u8 (ls[i].toNat : Int)) := by
  obtain ⟨cur, h1, h2, h3⟩ := h
  rw [cell_block h1]
  have h4 : (cur.toList.take ls.length)[i]? = some (.int .u8 (ls[i].toNat : Int)) := by rw [h3]; simp [bs, hi]
  rw [List.getElem?_take, if_pos hi] at h4
  rw [← h4]; simp
theorem ByteRow.keep {S : Nat → Prop} (h : ByteRow w g ls) (hk : Keep S w w') (hg : ¬ S g) : ByteRow w' g ls := by
  obtain ⟨cur, h1, h2, h3⟩ := h
  exact ⟨cur, hk.heap h1 hg, h2, h3⟩
theorem ByteRow.store (h : ByteRow w g ls) {i : Nat} (hi : i < ls.length) (x : UInt8) : ∃ w', stF w (.pointer (some ⟨g, i, none⟩)) (.int .u8 (x.toNat : Int)) = some (undef, w') ∧ ByteRow w' g (ls.set i x) ∧ Keep (fun b => b = g) w w' := by
  obtain ⟨cur, h1, h2, h3⟩ := h
  obtain ⟨w', hst, hb, hk⟩ := cell_store (i := i) h1 (by omega) (u := .int .u8 (x.toNat : Int)) rfl
  refine ⟨w', hst, ⟨_, hb, by simpa using h2, ?_⟩, hk⟩
  have : (bs ls).set i (.int .u8 (x.toNat : Int)) = bs (ls.set i x) := by simp [bs, List.map_set]
  rw [List.length_set, ← this, ← h3, Array.toList_setIfInBounds, List.take_set]
theorem ByteRow.part (h : ByteRow w g ls) {o m c : Nat} (ho : o + m ≤ ls.length) (hc : m ≤ c) : HasB w (.slice (some ⟨g, o, none⟩) m c) ((ls.drop o).take m) := by
  refine .inl ⟨g, o, m, c, rfl, by rw [bs_length, List.length_take, List.length_drop]; omega, hc, fun j u hj => ?_⟩
  have hjm : j < m := by
    have := (List.getElem?_eq_some_iff.1 hj).1
    rw [bs_length, List.length_take] at this; omega
  rw [h.cell (i := o + j) (by omega)]
  have : (bs ((ls.drop o).take m))[j]? = some (.int .u8 ((ls[o + j]'(by omega)).toNat : Int)) := by
    simp [bs, hjm, List.getElem?_take, List.getElem?_drop, show o + j < ls.length from by omega]
  rw [this] at hj; exact hj
theorem ByteRow.own {B : Nat} {v : Value} (h : w.ownsRow B 5 1 v ls.length (bs ls)) (hl : ls ≠ []) : ∃ g cap, v = .slice (some ⟨g, 0, none⟩) ls.length cap ∧ ls.length ≤ cap ∧ B ≤ g ∧ ByteRow w g ls := by
  obtain ⟨h0, ⟨_, h2⟩ | ⟨g, cap, cur, rfl, h2, h3, h4, h5, h6, h7⟩⟩ := h
  · exact absurd (List.eq_nil_of_length_eq_zero h2) hl
  · exact ⟨g, cap, rfl, h4, h2, cur, h3, by omega, by simpa using h7⟩
theorem patch_snoc {l : List UInt8} {o : Nat} {b : List UInt8} {x : UInt8} (h : o + b.length < l.length) : (patch l o b).set (o + b.length) x = patch l o (b ++ [x]) := by
  have ho : (l.take o ++ b).length = o + b.length := by rw [List.length_append, List.length_take]; omega
  unfold patch
  rw [List.drop_eq_getElem_cons h, List.set_append_right _ _ (by omega), ho, Nat.sub_self, List.set_cons_zero, List.length_append, List.length_singleton]
  simp [Nat.add_assoc]
theorem beB_take {m n i : Nat} (h : i < m) : (beB m n).take (i + 1) = (beB m n).take i ++ [UInt8.ofNat (n / 256 ^ (m - 1 - i))] := by
  rw [List.take_add_one, beB_get h]; rfl
set_option maxHeartbeats 1000000 in
theorem put_spec (h : ByteRow w g ls) {o m n c : Nat} (ho : o + m ≤ ls.length) (hl : ls.length ≤ 100000) (hm : m ≤ 4) (hn : n < 4611686018427387904) :
    Calls Tryz.prog 68 #[.slice (some ⟨g, o, none⟩) m c, .int .i64 n] w (Ret fun _ w' => ByteRow w' g (patch ls o (beB m n)) ∧ Keep (fun b => b = g) w w') := by
  have hbl := beB_length m n
  apply enter68
  apply R_in
  simp (maxSteps := 1000000) (disch := omega) only [↓sy1, sy2, sy3, readOK, sy5, sy6, Nat.reduceEqDiff, ↓reduceIte, sy7, sy8, sy9, sya, oneOf, syb, syc, Nat.reduceAdd, Nat.reduceMul, syd, sye, syf, syg, syh, reduceCtorEq, F68]
  refine loop_rule (fun e w' => ∃ i : Nat, i ≤ m ∧ e 7 = .int .i64 i ∧ e 6 = .int .i64 m ∧ e 0 = .slice (some ⟨g, o, none⟩) m c ∧ e 1 = .int .i64 n ∧ ByteRow w' g (patch ls o ((beB m n).take i)) ∧ Keep (fun b => b = g) w w') (fun e _ => m - (intOf (e 7)).toNat)
    ⟨0, by omega, by simp [upd, updO, ev], by simp [upd, updO, ev], by simp [upd, updO, ev], by simp [upd, updO, ev], by simpa [patch] using h, Keep.refl _ _⟩ ?_
  rintro e w1 ⟨i, hi, e7, e6, e0, e1, hr, hk⟩
  have htl : ((beB m n).take i).length = i := by rw [List.length_take]; omega
  by_cases hlt : i < m
  · have hs : (8 : Int) * ((m : Int) - 1 - (i : Int)) = ((8 * (m - 1 - i) : Nat) : Int) := by omega
    have hpow : 2 ^ (8 * (m - 1 - i)) = 256 ^ (m - 1 - i) := by rw [Nat.pow_mul]
    have hpl := patch_length (l := ls) (o := o) (b := (beB m n).take i) (by rw [htl]; omega)
    have hbyte : ((n / 2 ^ (8 * (m - 1 - i)) : Nat) : Int) % 256 = ((UInt8.ofNat (n / 256 ^ (m - 1 - i))).toNat : Int) := by
      rw [hpow, UInt8.toNat_ofNat']; omega
    obtain ⟨w2, hst, hr2, hk2⟩ := hr.store (i := o + i) (by omega) (UInt8.ofNat (n / 256 ^ (m - 1 - i)))
    have hia : iaF 1 (.slice (some ⟨g, o, none⟩) m c) (.int .i64 i) = some (.pointer (some ⟨g, o + i, none⟩)) := by
      rw [iaF_s (by omega), add_lit]; simp
    have hps := patch_snoc (l := ls) (o := o) (b := (beB m n).take i) (x := UInt8.ofNat (n / 256 ^ (m - 1 - i))) (by rw [htl]; omega)
    rw [htl, ← beB_take hlt] at hps
    rw [hps] at hr2
    simp (maxSteps := 1000000) (disch := omega) only [↓sy1, sy2, sy3, readOK, sy5, sy6, Nat.reduceEqDiff, ↓reduceIte, sy7, sy8, sy9, sya, oneOf, syb, syc, Nat.reduceAdd, Nat.reduceMul, syd, sye, syf, syg, syh, reduceCtorEq, F68_L0, e7, e6, e0, e1, Int.ofNat_lt, hlt, decide_true, hs, shr_n (n := n) (s := 8 * (m - 1 - i)) (by omega) (by omega), hbyte, hia, hst]
    exact R_out ⟨⟨i + 1, by omega, rfl, hr2, hk.trans hk2⟩, by simp only [intOf]; omega⟩
  · have hie : i = m := by omega
    subst hie
    rw [List.take_of_length_le (by omega)] at hr
    simp (maxSteps := 1000000) (disch := omega) only [↓sy1, sy2, sy3, readOK, sy5, sy6, Nat.reduceEqDiff, ↓reduceIte, sy7, sy8, sy9, sya, oneOf, syb, syc, Nat.reduceAdd, Nat.reduceMul, syd, sye, syf, syg, syh, reduceCtorEq, F68_L0, e7, e6, e0, e1, Int.ofNat_lt, hlt, decide_false]
    exact R_out ⟨hr, hk⟩
theorem get_spec {v : Value} {l : List UInt8} (h : HasB w v l) (hl : l.length ≤ 4) : Calls Tryz.prog 70 #[v] w (Ret fun r w' => r = .int .i64 (beN l : Nat) ∧ w' = w) := by
  have hlen : ∀ w', lenF w' 0 v = some (.int .i64 l.length) := fun w' => h.lenB w'
  apply enter70
  apply R_in
  simp (maxSteps := 1000000) (disch := omega) only [↓sy1, sy2, sy3, readOK, sy5, sy6, Nat.reduceEqDiff, ↓reduceIte, sy7, sy8, sy9, sya, oneOf, syb, syc, Nat.reduceAdd, Nat.reduceMul, syd, sye, syf, syg, syh, reduceCtorEq, F70, hlen]
  refine loop_rule (fun e w' => ∃ i : Nat, i ≤ l.length ∧ e 8 = .int .i64 i ∧ e 7 = .int .i64 l.length ∧ e 6 = v ∧ e 3 = .int .i64 (beN (l.take i) : Nat) ∧ beN (l.take i) < 256 ^ i ∧ w = w') (fun e _ => l.length - (intOf (e 8)).toNat)
    ⟨0, by omega, by simp [upd, updO, ev], by simp [upd, updO, ev], by simp [upd, updO, ev], by simp [upd, updO, ev, beN], by simp [beN], rfl⟩ ?_
  rintro e _ ⟨i, hi, e8, e7, e6, e3, hlt, rfl⟩
  by_cases hi4 : i < l.length
  · obtain ⟨a, ha, hc, _⟩ := h.getB hi4
    have hpow : (256 : Nat) ^ i ≤ 16777216 := Nat.le_trans (Nat.pow_le_pow_right (by omega) (show i ≤ 3 by omega)) (by decide)
    have hb := l[i].toNat_lt
    have hbe := beN_snoc (l := l) (i := i) (by omega)
    simp (maxSteps := 1000000) (disch := omega) only [↓sy1, sy2, sy3, readOK, sy5, sy6, Nat.reduceEqDiff, ↓reduceIte, sy7, sy8, sy9, sya, oneOf, syb, syc, Nat.reduceAdd, Nat.reduceMul, syd, sye, syf, syg, syh, reduceCtorEq, F70_L0, e8, e7, e6, e3, Int.ofNat_lt, hi4, decide_true, ha, hc, shl_256 (n := beN (l.take i)) (by omega), or_256 (a := beN (l.take i)) (b := l[i].toNat) (by omega) (by omega)]
    refine R_out ⟨⟨i + 1, by omega, rfl, by rw [hbe], ?_⟩, by simp only [intOf]; omega⟩
    rw [hbe, Nat.pow_succ]; omega
  · have hie : i = l.length := by omega
    subst hie
    rw [List.take_length] at e3
    simp (maxSteps := 1000000) (disch := omega) only [↓sy1, sy2, sy3, readOK, sy5, sy6, Nat.reduceEqDiff, ↓reduceIte, sy7, sy8, sy9, sya, oneOf, syb, syc, Nat.reduceAdd, Nat.reduceMul, syd, sye, syf, syg, syh, reduceCtorEq, F70_L0, e8, e7, e6, e3, Int.ofNat_lt, hi4, decide_false]
    exact R_out trivial
theorem ipages_spec {n : Nat} (hn : n < 1000000000) : Calls Tryz.prog 71 #[.int .i64 n] w (Ret fun r w' => r = .int .i64 (pagesN n : Nat) ∧ w' = w) := by
  apply enter71
  apply R_in
  have h1 : ((n : Int) + 512 - 1).tdiv 512 = (pagesN n : Nat) := by
    rw [show (n : Int) + 512 - 1 = ((n + 511 : Nat) : Int) from by omega]; rfl
  have h2 : pagesN n < 1000000000 := by unfold pagesN; omega
  simp (maxSteps := 1000000) (disch := omega) only [↓sy1, sy2, sy3, readOK, sy5, sy6, Nat.reduceEqDiff, ↓reduceIte, sy7, sy8, sy9, sya, oneOf, syb, syc, Nat.reduceAdd, Nat.reduceMul, syd, sye, syf, syg, syh, reduceCtorEq, F71, h1]
  exact R_out trivial
theorem imode_spec {n : Int} : Calls Tryz.prog 30 #[.int .i64 n] w (Ret fun r w' => r = .bool (decide (0 ≤ n ∧ n ≤ 4095)) ∧ w' = w) := by
  apply enter30
  apply R_in
  by_cases h0 : 0 ≤ n
  · by_cases h1 : n ≤ 4095
    · simp (maxSteps := 1000000) (disch := omega) only [↓sy1, sy2, sy3, readOK, sy5, sy6, Nat.reduceEqDiff, ↓reduceIte, sy7, sy8, sy9, sya, oneOf, syb, syc, Nat.reduceAdd, Nat.reduceMul, syd, sye, syf, syg, syh, reduceCtorEq, F30, h0, h1, decide_true, and_self]
      exact R_out trivial
    · simp (maxSteps := 1000000) (disch := omega) only [↓sy1, sy2, sy3, readOK, sy5, sy6, Nat.reduceEqDiff, ↓reduceIte, sy7, sy8, sy9, sya, oneOf, syb, syc, Nat.reduceAdd, Nat.reduceMul, syd, sye, syf, syg, syh, reduceCtorEq, F30, h0, h1, decide_true, decide_false, and_false]
      exact R_out trivial
  · simp (maxSteps := 1000000) (disch := omega) only [↓sy1, sy2, sy3, readOK, sy5, sy6, Nat.reduceEqDiff, ↓reduceIte, sy7, sy8, sy9, sya, oneOf, syb, syc, Nat.reduceAdd, Nat.reduceMul, syd, sye, syf, syg, syh, reduceCtorEq, F30, h0, decide_false, false_and]
    exact R_out trivial
end
end Go.Proofs.YtienelpepioggaaGreat

/- try: what is done is done, or all is forgotten. -/
namespace Go.Proofs.YtienelpepioggaaGreat
open Go
set_option linter.unusedSimpArgs false
def faultV : Value := .iface 88 (.agg #[])
def faultE : PanicEntry := { v := faultV, recovered := false }
/-- It returns, or gives up for want of room. -/
abbrev RetF (Φ : Value → World → Prop) (B : World → Prop) := Out Φ (fun c w => c = [faultE] ∧ B w)
section rules
variable {P : Program} {k : Kont} {e : Env} {w : World} {l : List GOp} {d : Option Nat}
theorem callF {f : FuncId} {vs : List Value} {Φ : Value → World → Prop} {B : World → Prop} (hc : Calls P f vs.toArray w (RetF Φ B)) (hp : ∀ w', B w' → k.p [faultE] w') (h : ∀ v w', Φ v w' → R (symOps P l k (updO e d v) w')) : callV P f vs d l k e w :=
  call_rule hc (fun _ _ h => h.1 ▸ hp _ h.2) h
theorem RetF.mono {Φ Φ' : Value → World → Prop} {B B' : World → Prop} {f : FuncId} {vs : Array Value} (hc : Calls P f vs w (RetF Φ B)) (h : ∀ v w', Φ v w' → Φ' v w') (hb : ∀ w', B w' → B' w') : Calls P f vs w (RetF Φ' B') :=
  hc.mono fun en w' he => by
    cases en with
    | returned v => exact h v w' he
    | panicked c => exact ⟨he.1, hb _ he.2⟩
    | outgrown => exact (he : False).elim
theorem panic_rule {x : Operand} {ty : TypeId} (hx : ev e x = faultV) (h : k.p [faultE] w) : R (symOps P (⟨d, .hard (H (.panic x) ty), none⟩ :: l) k e w) := by
  refine Or.inl ?_
  show hardK P ((execOp (ev e) (H (.panic x) ty)).run P w) _ _
  simp only [execOp, H, hx, faultV]
  exact h
theorem eql_iface {x : Operand} {t ty ty2 t' : TypeId} {v : Value} (hu : P.underlying t = some (.interface (P.methodsAt t))) (hx : ev e x = .iface t' v) (h : R (symOps P l k (updO e d (.bool false)) w)) :
    R (symOps P (⟨d, .hard (H (.binOp .eql t x (.const .nilIface) ty) ty2), none⟩ :: l) k e w) := by
  refine hard_rule ?_ h
  simp [execOp, H, hx, ev_const, eqGuard, run_eql_held_nil (P := P) w t t' v hu]
theorem eql_nil {x : Operand} {t ty ty2 : TypeId} (hu : P.underlying t = some (.interface (P.methodsAt t))) (hx : ev e x = .nilIface) (h : R (symOps P l k (updO e d (.bool true)) w)) :
    R (symOps P (⟨d, .hard (H (.binOp .eql t x (.const .nilIface) ty) ty2), none⟩ :: l) k e w) := by
  refine hard_rule ?_ h
  simp [execOp, H, hx, ev_const, eqGuard, run_eql_nil_nil (P := P) w t hu]
end rules
theorem sym_use {n : Nat} {P : Program} {c : Code} {s : SCode} {k : Kont} {a : Act} {w : World} {Q : Exit → Act → World → Prop} (hfit : fits n c = true) (hs : toS P c = s) (hn : a.tmps.size = n) (hd : a.defers = []) (hk : symS n P s k (envOf a) w)
    (hq : ∀ ex a' w', lift n k ex a' w' → Q ex a' w') : c.wp P Q a w := Code.wp_mono hq (symS_sound c hfit k a _ w ⟨hn, hd, fun _ => rfl⟩ (hs ▸ hk))
theorem under_any : Tryz.prog.underlying 20 = some (.interface (Tryz.prog.methodsAt 20)) := by kernel_rfl
theorem run_callFuncT {P : Program} {w : World} {f : FuncId} {args : Array Value} (hc : callable P f = true) : (callFunc f args).run P w = .ok (.enter f args) w := by
  unfold callable at hc
  cases hf : P.funcs[f]? with
  | none => simp [hf] at hc
  | some fn =>
    simp only [hf, Bool.and_eq_true, Bool.not_eq_true'] at hc
    have hn : ¬ ((fn.name == "runtime.NumGoroutine") = true) := by rw [hc.1]; simp
    have hb : ¬ (fn.body.isNone = true) := by cases hb : fn.body <;> simp [hb] at hc ⊢
    simp only [callFunc, Sem.run_bind, run_program, Result.andThen_ok, hf, hn, hb, if_false, Bool.false_eq_true]
    simp
/-- Behind the recover of the deferred function. -/
noncomputable def S87 : SCode := match F63 with | .seq _ y => y | x => x
theorem s87_idle {k : Kont} {e : Env} {w : World} (h5 : e 5 = .nilIface) (h : ∀ e, k.n e w) : symS 17 Tryz.prog S87 k e w := by
  apply R_in
  simp (maxSteps := 1000000) (disch := omega) only [↓sy1, sy2, sy3, readOK, sy5, sy6, Nat.reduceEqDiff, ↓reduceIte, sy7, sy8, sy9, sya, oneOf, syb, syc, Nat.reduceAdd, Nat.reduceMul, syd, sye, syf, syg, syh, reduceCtorEq, S87, F63]
  refine eql_nil under_any (by simp only [upd_at, Nat.reduceEqDiff, reduceIte, ev_tmp, ev_const, List.map_cons, List.map_nil, h5]) ?_
  simp (maxSteps := 1000000) (disch := omega) only [↓sy1, sy2, sy3, readOK, sy5, sy6, Nat.reduceEqDiff, ↓reduceIte, sy7, sy8, sy9, sya, oneOf, syb, syc, Nat.reduceAdd, Nat.reduceMul, syd, sye, syf, syg, syh, reduceCtorEq, h5]
  exact R_out (h _)
theorem idle87 {w : World} {a b : Value} : CallsD Tryz.prog 63 #[a, b] .returning w fun e u' w' => (∃ v, e = .returned v) ∧ u' = .returning ∧ w' = w := by
  refine callsD_of_wpS Tryz.func63 rfl fun c₀ cs hu => ?_
  apply wpS_seq
  apply wpS_region
  simp [wpOpsS, go_sem, recoverD, hu, Tryz.ntmps63, Exit.thenS]
  refine wpS_of_wp ?_
  refine sym_use (n := 17) (s := S87) (k := ⟨fun _ w' => w' = w, fun _ _ _ => False, fun _ w' => w' = w, fun _ _ => False⟩) (by kernel_rfl) (by kernel_rfl) (by simp) (by simp) (s87_idle (by simp [envOf]) (fun _ => rfl)) ?_
  rintro ex a' w' hl
  have hc : c₀ = { c₀ with mode := .returning } := by cases c₀; simp at hu; subst hu; rfl
  cases ex with
  | normal =>
    obtain ⟨e, h1, rfl⟩ := hl
    exact ⟨h1.defers, .returning, by rw [← hc], .tuple #[], by simp [results, Tryz.results63], ⟨_, rfl⟩, rfl, rfl⟩
  | ret =>
    obtain ⟨e, h1, rfl⟩ := hl
    exact ⟨h1.defers, .returning, by rw [← hc], .tuple #[], by simp [results, Tryz.results63], ⟨_, rfl⟩, rfl, rfl⟩
  | exit i => obtain ⟨_, _, h⟩ := hl; exact h.elim
  | panic c => exact hl.2.elim
  | goto l => exact (hl : False).elim
  | outgrown => exact (hl : False).elim
theorem stn0 {w : World} {a : Addr} : stnF w 0 (.pointer (some a)) (.agg #[]) = some (undef, w) := rfl
section
variable {G : Gh} {κ μ m p lq came k : Nat} {w : World} {c : Csh}
/-- All is forgotten. -/
theorem s87_catch {K : Kont} {e : Env} {a be q : Nat} {x : Value} {t : TypeId} (h : MapC G κ μ w m p lq came c k) (h0 : e 0 = .pointer (some ⟨a, 0, none⟩)) (h1 : e 1 = .pointer (some ⟨be, 0, none⟩)) (h5 : e 5 = faultV)
    (ha : w.cell? ⟨a, 0, none⟩ = some (.pointer (some ⟨q, 0, none⟩))) (hq : w.cell? ⟨q, 0, none⟩ = some (.pointer (some ⟨m, 0, none⟩))) (hb : w.heap[be]? = some (.cells #[x] t (0, 0))) (hob : G.own be ≠ μ) (hμ : μ ≠ 0)
    (hk : ∀ e w1 w2, MapC G κ μ w1 m p lq came c.abort k → Ext (fun x => x = μ) G w G w1 → Keep (fun b => b = be) w1 w2 → w2.heap[be]? = some (.cells #[.int .i64 7] t (0, 0)) → K.n e w2) : symS 17 Tryz.prog S87 K e w := by
  apply R_in
  simp (maxSteps := 1000000) (disch := omega) only [↓sy1, sy2, sy3, readOK, sy5, sy6, Nat.reduceEqDiff, ↓reduceIte, sy7, sy8, sy9, sya, oneOf, syb, syc, Nat.reduceAdd, Nat.reduceMul, syd, sye, syf, syg, syh, reduceCtorEq, S87, F63]
  refine eql_iface under_any (by simp only [upd_at, Nat.reduceEqDiff, reduceIte, ev_tmp, ev_const, List.map_cons, List.map_nil, h5]; rfl) ?_
  simp (maxSteps := 1000000) (disch := omega) only [↓sy1, sy2, sy3, readOK, sy5, sy6, Nat.reduceEqDiff, ↓reduceIte, sy7, sy8, sy9, sya, oneOf, syb, syc, Nat.reduceAdd, Nat.reduceMul, syd, sye, syf, syg, syh, reduceCtorEq, h5, h0, h1, faultV]
  have hg : Grow w (w.alloc (Obj.cells (Value.agg #[]).cells 88)) := (Keep.refl _ _).alloc _
  rw [stn0]
  generalize w.alloc (Obj.cells (Value.agg #[]).cells 88) = w1 at hg ⊢
  simp (maxSteps := 1000000) (disch := omega) only [↓sy1, sy2, sy3, readOK, sy5, sy6, Nat.reduceEqDiff, ↓reduceIte, sy7, sy8, sy9, sya, oneOf, syb, syc, Nat.reduceAdd, Nat.reduceMul, syd, sye, syf, syg, syh, reduceCtorEq, h0, h1, hg.gcell ha, hg.gcell hq]
  have h2 := h.grow hg
  refine call0 (mcache_spec h2) ?_
  rintro _ w2 ⟨rfl, rfl⟩
  simp (maxSteps := 1000000) (disch := omega) only [↓sy1, sy2, sy3, readOK, sy5, sy6, Nat.reduceEqDiff, ↓reduceIte, sy7, sy8, sy9, sya, oneOf, syb, syc, Nat.reduceAdd, Nat.reduceMul, syd, sye, syf, syg, syh, reduceCtorEq]
  refine call0 (csabort_spec h2.cache) ?_
  rintro _ w3 ⟨rfl, h3, hx3⟩
  have hx : Ext (fun x => x = μ) G w G w3 := (Ext.grow hg).trans hx3
  have h4 := h2.put hx3 (fun hh => hμ hh.symm) h3 rfl
  obtain ⟨w4, hst, hb4, hk4⟩ := cell_store (i := 0) (hx.heap hb hob) (by simp) (u := .int .i64 7) rfl
  simp (maxSteps := 1000000) (disch := omega) only [↓sy1, sy2, sy3, readOK, sy5, sy6, Nat.reduceEqDiff, ↓reduceIte, sy7, sy8, sy9, sya, oneOf, syb, syc, Nat.reduceAdd, Nat.reduceMul, syd, sye, syf, syg, syh, reduceCtorEq, h1, hst]
  exact R_out (hk _ w3 w4 h4 hx hk4 hb4)
/-- The world ahead of what try does: the receiver and the result in new variables. -/
def tryW (w : World) (q : Nat) : World := (w.alloc (Obj.cells #[Value.pointer (some { block := q, off := 0 })] 36)).alloc (Obj.cells #[Value.int IntKind.i64 0] 24)
theorem catch87 {R : World → Prop} {a be q : Nat} {x : Value} {t : TypeId} (h : MapC G κ μ w m p lq came c k)
    (ha : w.cell? ⟨a, 0, none⟩ = some (.pointer (some ⟨q, 0, none⟩))) (hq : w.cell? ⟨q, 0, none⟩ = some (.pointer (some ⟨m, 0, none⟩))) (hb : w.heap[be]? = some (.cells #[x] t (0, 0))) (hob : G.own be ≠ μ) (hμ : μ ≠ 0)
    (hk : ∀ w1 w2, MapC G κ μ w1 m p lq came c.abort k → Ext (fun x => x = μ) G w G w1 → Keep (fun b => b = be) w1 w2 → w2.heap[be]? = some (.cells #[.int .i64 7] t (0, 0)) → R w2) :
    CallsD Tryz.prog 63 #[.pointer (some ⟨a, 0, none⟩), .pointer (some ⟨be, 0, none⟩)] (.panicking [faultE]) w fun e u' w' => (∃ v, e = .returned v) ∧ u' = .panicking [{ faultE with recovered := true }] ∧ R w' := by
  refine callsD_of_wpS Tryz.func63 rfl fun c₀ cs hu => ?_
  apply wpS_seq
  apply wpS_region
  simp [wpOpsS, go_sem, recoverD, hu, Tryz.ntmps63, Exit.thenS, faultE]
  refine wpS_of_wp ?_
  refine sym_use (n := 17) (s := S87) (k := ⟨fun _ w' => R w', fun _ _ _ => False, fun _ w' => R w', fun _ _ => False⟩) (by kernel_rfl) (by kernel_rfl) (by simp) (by simp)
    (s87_catch h (by simp [envOf]) (by simp [envOf]) (by simp [envOf]) ha hq hb hob hμ (fun _ w1 w2 h1 h2 h3 h4 => hk w1 w2 h1 h2 h3 h4)) ?_
  rintro ex a' w' hl
  cases ex with
  | normal =>
    obtain ⟨e, h1, hR⟩ := hl
    exact ⟨h1.defers, _, rfl, .tuple #[], by simp [results, Tryz.results63], ⟨_, rfl⟩, rfl, hR⟩
  | ret =>
    obtain ⟨e, h1, hR⟩ := hl
    exact ⟨h1.defers, _, rfl, .tuple #[], by simp [results, Tryz.results63], ⟨_, rfl⟩, rfl, hR⟩
  | exit i => obtain ⟨_, _, h⟩ := hl; exact h.elim
  | panic c => exact hl.2.elim
  | goto l => exact (hl : False).elim
  | outgrown => exact (hl : False).elim
set_option maxRecDepth 10000 in
/-- What is tried: it is done, and try answers 0; or it gave up, all is forgotten, and try answers 7. -/
theorem try_spec {q f : Nat} {caps : Array Value} {K : Nat → Prop} {G0 : Gh} {Q B : World → Prop} (hf : callable Tryz.prog f = true) (hK : ¬ K 0) (hμ : μ ≠ 0) (hq : w.cell? ⟨q, 0, none⟩ = some (.pointer (some ⟨m, 0, none⟩)))
    (hoq : G0.own q = 0) (hoa : ¬ K (G0.own w.heap.size)) (hob : ¬ K (G0.own (w.heap.size + 1)) ∧ G0.own (w.heap.size + 1) ≠ μ)
    (hc : Calls Tryz.prog f caps (tryW w q) (RetF (fun _ w1 => ∃ G1, Ext K G0 (tryW w q) G1 w1 ∧ Q w1) (fun w1 => ∃ G1 c1, Ext K G0 (tryW w q) G1 w1 ∧ MapC G1 κ μ w1 m p lq came c1 k ∧
      ∀ w2, MapC G1 κ μ w2 m p lq came c1.abort k → Ext (fun x => x = μ) G1 w1 G1 w2 → B w2))) :
    Calls Tryz.prog 31 #[.pointer (some ⟨q, 0, none⟩), .func (.func f) #[] caps] w (Ret fun v w' => ∃ w1, Keep (fun b => b = w.heap.size + 1) w1 w' ∧ ((v = .int .i64 0 ∧ Q w1) ∨ (v = .int .i64 7 ∧ B w1))) := by
  have hmf : ∀ (fn : Fn) (first cap : Array Value) (w : World), (Instr.makeFunc fn first cap).run Tryz.prog w = .ok (.func fn first cap) w := fun _ _ _ _ => rfl
  have hba : (tryW w q).heap[w.heap.size]? = some (.cells #[.pointer (some ⟨q, 0, none⟩)] 36 (0, 0)) := by
    unfold tryW
    exact (heap_alloc_old (w.alloc (Obj.cells #[Value.pointer (some { block := q, off := 0 })] 36)) (Obj.cells #[Value.int IntKind.i64 0] 24) (by simp)).trans (heap_alloc_new _ _)
  have hbe : (tryW w q).heap[w.heap.size + 1]? = some (.cells #[.int .i64 0] 24 (0, 0)) := by
    unfold tryW
    have := heap_alloc_new (w.alloc (Obj.cells #[Value.pointer (some { block := q, off := 0 })] 36)) (Obj.cells #[Value.int IntKind.i64 0] 24)
    simpa using this
  have hqt : (tryW w q).cell? ⟨q, 0, none⟩ = some (.pointer (some ⟨m, 0, none⟩)) := (((Keep.refl (fun _ => False) w).alloc _).alloc _).gcell hq
  go_enter_defers Tryz.func31, Tryz.ntmps31
  go_wp2
  rw [run_callFuncT hf]
  refine Calls.mono hc ?_
  intro en w1 he
  cases en with
  | outgrown => exact (he : False).elim
  | panicked c =>
    obtain ⟨rfl, G1, c1, hx, hm, hB⟩ := he
    have ha1 := hx.heap hba hoa
    have hb1 := hx.heap hbe hob.1
    have hq1 := hx.keep.cell hqt (by show ¬ K (G0.own q); rw [hoq]; exact hK)
    show Leaves _ _ _ _ _ _ _
    refine leaves_cons (f := 63) (args := #[.pointer (some ⟨w.heap.size, 0, none⟩), .pointer (some ⟨w.heap.size + 1, 0, none⟩)]) (by simp) (by simp [go_sem]) ?_
    refine (catch87 (R := fun w' => w'.cell? ⟨w.heap.size + 1, 0, none⟩ = some (.int .i64 7) ∧ ∃ w2, Keep (fun b => b = w.heap.size + 1) w2 w' ∧ B w2) hm (by rw [cell_block ha1]; rfl) hq1 hb1 (by rw [hx.own _ (by simp [tryW])]; exact hob.2) hμ ?_).mono ?_
    · intro w2 w3 h2 h3 h4 h5
      exact ⟨by rw [cell_block h5]; rfl, w2, h4, hB w2 h2 h3⟩
    rintro e u' w'' ⟨⟨v, rfl⟩, rfl, hcell, w2, hk2, hp⟩
    simp [Leaves, settle, results, Tryz.results31, go_sem, faultE, hcell]
    exact ⟨w2, hk2, .inr ⟨rfl, hp⟩⟩
  | returned v =>
    obtain ⟨G1, hx, hQ⟩ := he
    have hb1 := hx.heap hbe hob.1
    have hc1 : w1.cell? ⟨w.heap.size + 1, 0, none⟩ = some (.int .i64 0) := by rw [cell_block hb1]; rfl
    have hz1 : w1.frozen? ⟨w.heap.size + 1, 0, none⟩ = false := frozen_block hb1 0
    go_wp2
    show Leaves _ _ _ _ _ _ _
    refine leaves_cons (f := 63) (args := #[.pointer (some ⟨w.heap.size, 0, none⟩), .pointer (some ⟨w.heap.size + 1, 0, none⟩)]) (by simp) (by simp [go_sem]) ?_
    refine idle87.mono ?_
    rintro e u' w'' ⟨⟨v, rfl⟩, rfl, rfl⟩
    obtain ⟨w2, hst, hb2, hk2⟩ := cell_store (i := 0) hb1 (by simp) (u := .int .i64 0) rfl
    have hcell : (w1.setCell ⟨w.heap.size + 1, 0, none⟩ (.int .i64 0)).cell? ⟨w.heap.size + 1, 0, none⟩ = some (.int .i64 0) := by
      have h1 := hst.symm.trans (stF_p rfl hc1 hz1)
      simp only [Option.some.injEq, Prod.mk.injEq, true_and] at h1
      rw [← h1, cell_block hb2]; rfl
    simp [Leaves, settle, results, Tryz.results31, go_sem, hcell]
    exact ⟨w1, (Keep.refl _ _).setCell _ (fun _ => rfl), .inl ⟨rfl, hQ⟩⟩
end
end Go.Proofs.YtienelpepioggaaGreat

/- An inode in memory; results of which one lies in a cell. -/
namespace Go.Proofs.YtienelpepioggaaGreat
open Go
set_option linter.unusedSimpArgs false
open Go.RowKit (intOf)
/-- What is told out of a cell's struct, and a slot. -/
theorem results_cellX {P : Program} {fn : Func} {t u : Nat} {ty : TypeId} {d : TypeDesc} {n : Nat} {tmps : Array Value} {a : Addr} {cs : List Value} {w : World} (h : fn.results = #[.cell t ty, .tmp u]) (hu : P.underlying ty = some d) (hd : isAggD d = true) (hn : P.cellsOf ty = n)
    (ht : tmps.getD t undef = .pointer (some a)) (hl : loadN w a 0 n = some cs) : (results fn tmps).run P w = .ok (.tuple #[.agg cs.toArray, tmps.getD u undef]) w := by
  subst hn
  have h1 := run_loadN (P := P) w a _ 0 #[] cs hl
  simp only [results, h]
  rw [Array.getD_eq_getD_getElem?] at ht
  rw [Array.mapM_eq_mapM_toList]
  simp [ht, asAddr, loadVar, run_isAgg hu, hd, run_sizeOf' (info_of_underlying hu), loadCells, h1]
theorem calls_symX {P : Program} {f : FuncId} {fn : Func} {c : Code} {args : List Value} {w : World} {Φ : Value → World → Prop} {Ψ : List PanicEntry → World → Prop} (n t u m : Nat) {ty : TypeId} {d : TypeDesc}
    (hf : P.funcs[f]? = some fn) (hb : fn.body = some c) (hn : fn.ntmps = n) (hr : fn.results = #[.cell t ty, .tmp u]) (hu : P.underlying ty = some d) (hd : isAggD d = true) (hm : P.cellsOf ty = m) (hfit : fits n c = true) (hargs : args.length ≤ n) {s : SCode} (hs : toS P c = s)
    (h : symS n P s ⟨fun e w => RC m (e t) (fun v w => Φ (.tuple #[v, e u]) w) w, fun _ _ _ => False, fun e w => RC m (e t) (fun v w => Φ (.tuple #[v, e u]) w) w, Ψ⟩ (initEnv args 0 env0) w) :
    Calls P f args.toArray w (Out Φ Ψ) := by
  refine calls_of_wp hf hb (Code.wp_mono (fun ex a' w' hq => ?_) (symS_sound c hfit _ _ _ w ?_ (hs ▸ h)))
  · cases ex with
    | normal =>
      obtain ⟨e, h1, x, cs, h2, h3, h4⟩ := hq
      exact ⟨h1.defers, _, results_cellX hr hu hd hm (by rw [h1.val]; exact h2) h3, by rw [h1.val]; exact h4⟩
    | ret =>
      obtain ⟨e, h1, x, cs, h2, h3, h4⟩ := hq
      exact ⟨h1.defers, _, results_cellX hr hu hd hm (by rw [h1.val]; exact h2) h3, by rw [h1.val]; exact h4⟩
    | exit i => obtain ⟨e, _, h2⟩ := hq; exact h2
    | panic c => exact hq
    | outgrown => exact (hq : False).elim
    | goto l => exact hq
  · refine ⟨by simp [hn]; omega, rfl, fun t => ?_⟩
    simp only [getD_args, initEnv_get, Nat.zero_add, Nat.zero_le, true_and, Nat.sub_zero]
    split
    · rfl
    · rename_i hlt
      rw [List.getD_eq_getElem?_getD, List.getElem?_eq_none (by omega)]; rfl
/-- What is told out of a cell, and a slot. -/
def RP (v : Value) (Φ : Value → World → Prop) (w : World) : Prop := ∃ a u, v = .pointer (some a) ∧ w.cell? a = some u ∧ Φ u w
theorem results_cellP {P : Program} {fn : Func} {t u : Nat} {ty : TypeId} {d : TypeDesc} {tmps : Array Value} {a : Addr} {x : Value} {w : World} (h : fn.results = #[.cell t ty, .tmp u]) (hu : P.underlying ty = some d) (hd : isAggD d = false)
    (ht : tmps.getD t undef = .pointer (some a)) (hl : w.cell? a = some x) : (results fn tmps).run P w = .ok (.tuple #[x, tmps.getD u undef]) w := by
  simp only [results, h]
  rw [Array.getD_eq_getD_getElem?] at ht
  rw [Array.mapM_eq_mapM_toList]
  simp [ht, asAddr, loadVar, run_isAgg hu, hd, hl]
theorem calls_symP {P : Program} {f : FuncId} {fn : Func} {c : Code} {args : List Value} {w : World} {Φ : Value → World → Prop} {Ψ : List PanicEntry → World → Prop} (n t u : Nat) {ty : TypeId} {d : TypeDesc}
    (hf : P.funcs[f]? = some fn) (hb : fn.body = some c) (hn : fn.ntmps = n) (hr : fn.results = #[.cell t ty, .tmp u]) (hu : P.underlying ty = some d) (hd : isAggD d = false) (hfit : fits n c = true) (hargs : args.length ≤ n) {s : SCode} (hs : toS P c = s)
    (h : symS n P s ⟨fun e w => RP (e t) (fun v w => Φ (.tuple #[v, e u]) w) w, fun _ _ _ => False, fun e w => RP (e t) (fun v w => Φ (.tuple #[v, e u]) w) w, Ψ⟩ (initEnv args 0 env0) w) :
    Calls P f args.toArray w (Out Φ Ψ) := by
  refine calls_of_wp hf hb (Code.wp_mono (fun ex a' w' hq => ?_) (symS_sound c hfit _ _ _ w ?_ (hs ▸ h)))
  · cases ex with
    | normal =>
      obtain ⟨e, h1, x, cs, h2, h3, h4⟩ := hq
      exact ⟨h1.defers, _, results_cellP hr hu hd (by rw [h1.val]; exact h2) h3, by rw [h1.val]; exact h4⟩
    | ret =>
      obtain ⟨e, h1, x, cs, h2, h3, h4⟩ := hq
      exact ⟨h1.defers, _, results_cellP hr hu hd (by rw [h1.val]; exact h2) h3, by rw [h1.val]; exact h4⟩
    | exit i => obtain ⟨e, _, h2⟩ := hq; exact h2
    | panic c => exact hq
    | outgrown => exact (hq : False).elim
    | goto l => exact hq
  · refine ⟨by simp [hn]; omega, rfl, fun t => ?_⟩
    simp only [getD_args, initEnv_get, Nat.zero_add, Nat.zero_le, true_and, Nat.sub_zero]
    split
    · rfl
    · rename_i hlt
      rw [List.getD_eq_getElem?_getD, List.getElem?_eq_none (by omega)]; rfl
theorem loadN_cells {w : World} {b o : Nat} {cur : Array Value} {t : TypeId} (h : w.heap[b]? = some (.cells cur t (0, 0))) : ∀ (n i : Nat), o + i + n ≤ cur.size → loadN w ⟨b, o, none⟩ i n = some ((cur.toList.drop (o + i)).take n)
  | 0, i, _ => by simp [loadN]
  | n + 1, i, hl => by
    have hc : w.cell? ⟨b, o + i, none⟩ = some cur[o + i] := by rw [cell_block h]; exact Array.getElem?_eq_getElem (by omega)
    rw [loadN, add_lit, hc]
    simp only
    have hd := List.drop_eq_getElem_cons (l := cur.toList) (i := o + i) (by simpa using (by omega : o + i < cur.size))
    rw [loadN_cells h n (i + 1) (by omega), Option.map_some, hd, List.take_succ_cons]
    simp [Nat.add_assoc]
theorem storeN_cells {p : Nat} {t : TypeId} : ∀ (l : List Value) (w : World) (cur : Array Value) (i : Nat), w.heap[p]? = some (.cells cur t (0, 0)) → i + l.length ≤ cur.size → (∀ v ∈ l, isCell v = true) →
    ∃ w', storeN w ⟨p, 0, none⟩ i l = some w' ∧ w'.heap[p]? = some (.cells (cur.toList.take i ++ l ++ cur.toList.drop (i + l.length)).toArray t (0, 0)) ∧ Keep (fun b => b = p) w w'
  | [], w, cur, i, h, hl, _ => ⟨w, rfl, by simpa using h, Keep.refl _ _⟩
  | v :: l, w, cur, i, h, hl, hc => by
    simp only [List.length_cons] at hl
    obtain ⟨w1, e1, h1, k1⟩ := storeN_one (i := i) l h (by omega) (hc v (by simp))
    obtain ⟨w2, e2, h2, k2⟩ := storeN_cells l w1 _ (i + 1) h1 (by simp; omega) (fun u hu => hc u (by simp [hu]))
    refine ⟨w2, e1.trans e2, ?_, k1.trans k2⟩
    rw [h2]
    congr 3
    rw [Array.toList_setIfInBounds, List.take_set, List.drop_set_of_lt (by omega), List.take_add_one]
    rw [List.length_cons, show i + 1 + l.length = i + (l.length + 1) from by omega]
    have hg : cur.toList[i]? = some cur[i] := by simp
    rw [hg, Option.toList_some, List.set_append_right _ _ (by rw [List.length_take]; exact Nat.min_le_left _ _)]
    simp [Nat.min_eq_left (by omega : i ≤ cur.size)]
/-- An inode at block q. -/
def OpnAt (w : World) (q : Nat) (o : Opn) : Prop := w.heap[q]? = some (.cells o.cells.toArray 95 (0, 0))
section
variable {w w' : World} {q : Nat} {o : Opn}
theorem OpnAt.keep {S : Nat → Prop} (h : OpnAt w q o) (hk : Keep S w w') (hs : ¬ S q) : OpnAt w' q o := hk.heap h hs
theorem OpnAt.cell (h : OpnAt w q o) {j : Nat} (hj : j < 144) : w.cell? ⟨q, j, none⟩ = some (.int .i64 (o.cell j)) := by
  rw [cell_block h]; simp [o.cells_get hj]
theorem OpnAt.store (h : OpnAt w q o) {j : Nat} {u : Value} {o' : Opn} (hj : j < 144) (hu : isCell u = true) (ho : o.cells.set j u = o'.cells) :
    ∃ w', stF w (.pointer (some ⟨q, j, none⟩)) u = some (undef, w') ∧ OpnAt w' q o' ∧ Keep (fun b => b = q) w w' := by
  obtain ⟨w', hst, hb, hk⟩ := cell_store (i := j) h (by simp [o.cells_length]; exact hj) hu
  refine ⟨w', hst, ?_, hk⟩
  rw [OpnAt, hb, ← ho]; simp
theorem OpnAt.load (h : OpnAt w q o) : loadN w ⟨q, 0, none⟩ 0 144 = some o.cells := by
  have h1 := loadN_cells (o := 0) h 144 0 (by simp [o.cells_length])
  rw [h1]
  simp only [Nat.add_zero, List.drop_zero]
  rw [List.take_of_length_le (by rw [o.cells_length]; exact Nat.le_refl _)]
theorem OpnAt.stn (h : OpnAt w q o) (o' : Opn) : ∃ w', stnF w 144 (.pointer (some ⟨q, 0, none⟩)) (.agg o'.cells.toArray) = some (undef, w') ∧ OpnAt w' q o' ∧ Keep (fun b => b = q) w w' := by
  obtain ⟨w', h1, h2, h3⟩ := storeN_cells o'.cells w _ 0 h (by simp [o.cells_length, o'.cells_length]) o'.cells_one
  refine ⟨w', ?_, ?_, h3⟩
  · simp [stnF, Value.cells, o'.cells_length, h1]
  · rw [OpnAt, h2]
    simp only [List.take_zero, List.nil_append]
    rw [List.drop_eq_nil_of_le (by simp [o.cells_length, o'.cells_length]), List.append_nil]
theorem OpnAt.new (w : World) : OpnAt (w.alloc (.cells (Value.agg (Array.replicate 144 (.int .i64 0))).cells 95)) w.heap.size Opn.zero := by
  rw [OpnAt, Opn.zero_cells]
  exact (heap_alloc_new w _).trans (by rw [List.toArray_replicate]; rfl)
theorem OpnAt.box (w : World) (o : Opn) : OpnAt (w.alloc (.cells (Value.agg o.cells.toArray).cells 95)) w.heap.size o := heap_alloc_new w _
theorem OpnAt.lt (h : OpnAt w q o) : q < w.heap.size := (Array.getElem?_eq_some_iff.1 h).1
end
/-- The store of inodes at block s. -/
def StoreAt (G : Gh) (w : World) (s m : Nat) : Prop := w.heap[s]? = some (.cells #[.pointer (some ⟨m, 0, none⟩)] 76 (0, 0)) ∧ G.own s = 0
section
variable {K : Nat → Prop} {G G' : Gh} {w w' : World} {s m : Nat}
theorem StoreAt.ext (h : StoreAt G w s m) (hx : Ext K G w G' w') (h0 : ¬ K 0) : StoreAt G' w' s m := ⟨hx.heap h.1 (by rw [h.2]; exact h0), by rw [hx.own s (hx.lt h.1)]; exact h.2⟩
theorem StoreAt.grow (h : StoreAt G w s m) (hg : Grow w w') : StoreAt G w' s m := ⟨hg.gheap h.1, h.2⟩
theorem StoreAt.cell (h : StoreAt G w s m) : w.cell? ⟨s, 0, none⟩ = some (.pointer (some ⟨m, 0, none⟩)) := by rw [cell_block h.1]; rfl
end
end Go.Proofs.YtienelpepioggaaGreat

/- Files in plain words: whose pages, which records, what bytes. -/
namespace Go.Proofs.YtienelpepioggaaGreat
open Go
set_option linter.unusedSimpArgs false
structure Opn.Ok (o : Opn) : Prop where
  kind : 1 ≤ o.kind ∧ o.kind ≤ 3
  mode : o.mode ≤ 4095
  links : o.links ≤ 65535
  size : o.size ≤ 70656
  data : o.data.length = pagesN o.size
  ind : o.ind = 0 ↔ o.data.length ≤ 10
def Opn.own (o : Opn) : List Nat := o.data ++ if o.ind = 0 then [] else [o.ind]
/-- The record of an inode, its indirect page and its bytes. -/
structure FRec (c : Csh) (o : Opn) (b : List UInt8) : Prop where
  seg : ((c.page (3 + o.i / 8)).drop (64 * (o.i % 8))).take 64 = o.recB
  ind : o.ind ≠ 0 → c.page o.ind = o.ind4
  bytes : o.data.flatMap c.page = b ++ List.replicate (512 * o.data.length - o.size) 0
  len : b.length = o.size
/-- Which inode has which pages. -/
structure FOwn (P I : List Bool) (F : Nat → Option Opn) : Prop where
  num : ∀ i o, F i = some o → o.i = i ∧ 1 ≤ i ∧ I[i]? = some true
  used : ∀ i, 1 ≤ i → I[i]? = some true → ∃ o, F i = some o
  page : ∀ i o n, F i = some o → n ∈ o.own → 3 + I.length / 8 ≤ n ∧ P[n]? = some true
  apart : ∀ i j o o' n, F i = some o → F j = some o' → n ∈ o.own → n ∈ o'.own → i = j
  nodup : ∀ i o, F i = some o → o.own.Nodup
  all : ∀ n, 3 + I.length / 8 ≤ n → P[n]? = some true → ∃ i o, F i = some o ∧ n ∈ o.own
/-- The files of a map. -/
structure FsOk (c : Csh) (P I : List Bool) (F : Nat → Option Opn) (B : Nat → List UInt8) : Prop where
  alc : Alc c P I
  own : FOwn P I F
  ok : ∀ i o, F i = some o → o.Ok
  recs : ∀ i o, F i = some o → FRec c o (B i)
/-- What Get's errors are. -/
def lookC (F : Nat → Option Opn) (k : Nat) (i : Int) : Int := if i < 1 ∨ (k : Int) ≤ i then 2 else if (F i.toNat).isNone then 4 else 0
def lookO (F : Nat → Option Opn) (k : Nat) (i : Int) : Opn := if i < 1 ∨ (k : Int) ≤ i then Opn.zero else (F i.toNat).getD Opn.zero
theorem flatMap_congr' {l : List Nat} {f g : Nat → List UInt8} (h : ∀ n ∈ l, f n = g n) : l.flatMap f = l.flatMap g := by
  induction l with
  | nil => rfl
  | cons a l ih => rw [List.flatMap_cons, List.flatMap_cons, h a (by simp), ih (fun n hn => h n (by simp [hn]))]
theorem FRec.keep {c c' : Csh} {o : Opn} {b : List UInt8} (h : FRec c o b) (hr : ((c'.page (3 + o.i / 8)).drop (64 * (o.i % 8))).take 64 = ((c.page (3 + o.i / 8)).drop (64 * (o.i % 8))).take 64) (hp : ∀ n ∈ o.own, c'.page n = c.page n) : FRec c' o b := by
  refine ⟨hr.trans h.seg, fun hi => (hp _ (by simp [Opn.own, hi])).trans (h.ind hi), ?_, h.len⟩
  rw [← h.bytes]
  exact flatMap_congr' fun n hn => hp n (by simp [Opn.own, hn])
/-- The pages that a size wants. -/
theorem pagesN_le {s : Nat} (h : s ≤ 70656) : pagesN s ≤ 138 := by unfold pagesN; omega
/-- The number of a page in range. -/
theorem FsOk.lt {c : Csh} {P I : List Bool} {F : Nat → Option Opn} {B : Nat → List UInt8} (h : FsOk c P I F B) {i n : Nat} {o : Opn} (hF : F i = some o) (hn : n ∈ o.own) : 4 ≤ n ∧ n < c.N ∧ n < 4096 := by
  obtain ⟨h1, h2⟩ := h.own.page i o n hF hn
  have h3 := (List.getElem?_eq_some_iff.1 h2).1
  have h4 := h.alc.plen
  have h5 := h.alc.may
  unfold mayA at h5
  omega
theorem FsOk.num_lt {c : Csh} {P I : List Bool} {F : Nat → Option Opn} {B : Nat → List UInt8} (h : FsOk c P I F B) {i : Nat} {o : Opn} (hF : F i = some o) (k : Nat) : o.data.getD k 0 < 4096 ∧ o.num k < 4096 := by
  have h1 : o.data.getD k 0 < 4096 := by
    rw [List.getD_eq_getElem?_getD]
    by_cases hk : k < o.data.length
    · rw [List.getElem?_eq_getElem hk]
      exact (h.lt hF (n := o.data[k]) (by simp [Opn.own])).2.2
    · rw [List.getElem?_eq_none (by omega)]; simp
  refine ⟨h1, ?_⟩
  unfold Opn.num
  split
  · exact h1
  · by_cases hi : o.ind = 0
    · omega
    · exact (h.lt hF (n := o.ind) (by simp [Opn.own, hi])).2.2
theorem FsOk.i_lt {c : Csh} {P I : List Bool} {F : Nat → Option Opn} {B : Nat → List UInt8} (h : FsOk c P I F B) {i : Nat} {o : Opn} (hF : F i = some o) : 1 ≤ i ∧ i < I.length ∧ I.length ≤ 512 ∧ o.i = i := by
  obtain ⟨h1, h2, h3⟩ := h.own.num i o hF
  have h4 := h.alc.may
  unfold mayA at h4
  exact ⟨h2, (List.getElem?_eq_some_iff.1 h3).1, by omega, h1⟩
/-- A file in place of one. -/
def upF (F : Nat → Option Opn) (i : Nat) (o : Option Opn) : Nat → Option Opn := fun j => if j = i then o else F j
theorem upF_same {F : Nat → Option Opn} {i : Nat} {o : Option Opn} : upF F i o i = o := by simp [upF]
theorem upF_ne {F : Nat → Option Opn} {i j : Nat} {o : Option Opn} (h : j ≠ i) : upF F i o j = F j := by simp [upF, h]
theorem upF_self {F : Nat → Option Opn} {i : Nat} : upF F i (F i) = F := by
  funext j; unfold upF; split
  · rename_i h; rw [h]
  · rfl
/-- A page is taken for a file. -/
theorem FOwn.grow {P I : List Bool} {F : Nat → Option Opn} {i n : Nat} {o o' : Opn} (h : FOwn P I (upF F i (some o))) (hn : 3 + I.length / 8 ≤ n) (hP : P[n]? = some false) (hp : o'.own.Perm (n :: o.own)) (hi : o'.i = o.i) : FOwn (P.set n true) I (upF F i (some o')) := by
  have hlt := (List.getElem?_eq_some_iff.1 hP).1
  have hno : ∀ j oj, upF F i (some o) j = some oj → n ∉ oj.own := fun j oj hj hm => by
    have := (h.page j oj n hj hm).2
    rw [hP] at this; cases this
  have hno' : n ∉ o.own := hno i o upF_same
  have key : ∀ j oj, upF F i (some o') j = some oj → (j = i ∧ oj = o') ∨ (j ≠ i ∧ upF F i (some o) j = some oj) := fun j oj hj => by
    by_cases hji : j = i
    · subst hji; rw [upF_same] at hj; cases hj; exact .inl ⟨rfl, rfl⟩
    · rw [upF_ne hji] at hj; exact .inr ⟨hji, by rw [upF_ne hji]; exact hj⟩
  refine ⟨fun j oj hj => ?_, fun j h1 h2 => ?_, fun j oj x hj hx => ?_, fun j j' oj oj' x hj hj' hx hx' => ?_, fun j oj hj => ?_, fun x hx hPx => ?_⟩
  · rcases key j oj hj with ⟨rfl, rfl⟩ | ⟨_, hj2⟩
    · have := h.num j o upF_same; exact ⟨hi.trans this.1, this.2⟩
    · exact h.num j oj hj2
  · by_cases hji : j = i
    · subst hji; exact ⟨o', upF_same⟩
    · obtain ⟨oj, ho⟩ := h.used j h1 h2
      exact ⟨oj, by rw [upF_ne hji]; rw [upF_ne hji] at ho; exact ho⟩
  · rcases key j oj hj with ⟨rfl, rfl⟩ | ⟨_, hj2⟩
    · rcases List.mem_cons.1 ((hp.mem_iff).1 hx) with rfl | hx
      · exact ⟨hn, by rw [List.getElem?_set_self hlt]⟩
      · have := h.page j o x upF_same hx
        exact ⟨this.1, by rw [List.getElem?_set_ne (fun (hh : n = x) => hno' (by rw [hh]; exact hx))]; exact this.2⟩
    · have := h.page j oj x hj2 hx
      exact ⟨this.1, by rw [List.getElem?_set_ne (fun (hh : n = x) => hno j oj hj2 (by rw [hh]; exact hx))]; exact this.2⟩
  · rcases key j oj hj with ⟨rfl, rfl⟩ | ⟨hne, hj2⟩
    · rcases key j' oj' hj' with ⟨rfl, rfl⟩ | ⟨hne', hj3⟩
      · rfl
      · rcases List.mem_cons.1 ((hp.mem_iff).1 hx) with rfl | hx
        · exact absurd hx' (hno j' oj' hj3)
        · exact h.apart j j' o oj' x upF_same hj3 hx hx'
    · rcases key j' oj' hj' with ⟨rfl, rfl⟩ | ⟨hne', hj3⟩
      · rcases List.mem_cons.1 ((hp.mem_iff).1 hx') with rfl | hx'
        · exact absurd hx (hno j oj hj2)
        · exact h.apart j j' oj o x hj2 upF_same hx hx'
      · exact h.apart j j' oj oj' x hj2 hj3 hx hx'
  · rcases key j oj hj with ⟨rfl, rfl⟩ | ⟨_, hj2⟩
    · exact (hp.nodup_iff).2 (List.nodup_cons.2 ⟨hno', h.nodup j o upF_same⟩)
    · exact h.nodup j oj hj2
  · by_cases hxn : x = n
    · subst hxn; exact ⟨i, o', upF_same, (hp.mem_iff).2 (by simp)⟩
    · rw [List.getElem?_set_ne (Ne.symm hxn)] at hPx
      obtain ⟨j, oj, hj, hm⟩ := h.all x hx hPx
      by_cases hji : j = i
      · subst hji; rw [upF_same] at hj; cases hj
        exact ⟨j, o', upF_same, (hp.mem_iff).2 (by simp [hm])⟩
      · exact ⟨j, oj, by rw [upF_ne hji]; rw [upF_ne hji] at hj; exact hj, hm⟩
/-- A page is given back. -/
theorem FOwn.shrink {P I : List Bool} {F : Nat → Option Opn} {i n : Nat} {o o' : Opn} (h : FOwn P I (upF F i (some o))) (hp : o.own.Perm (n :: o'.own)) (hi : o'.i = o.i) : FOwn (P.set n false) I (upF F i (some o')) := by
  have hmem : ∀ x, x ∈ o.own ↔ x = n ∨ x ∈ o'.own := fun x => by rw [hp.mem_iff, List.mem_cons]
  have hnd := (hp.nodup_iff).1 (h.nodup i o upF_same)
  rw [List.nodup_cons] at hnd
  have hlt := (List.getElem?_eq_some_iff.1 (h.page i o n upF_same ((hmem n).2 (.inl rfl))).2).1
  have key : ∀ j oj, upF F i (some o') j = some oj → (j = i ∧ oj = o') ∨ (j ≠ i ∧ upF F i (some o) j = some oj) := fun j oj hj => by
    by_cases hji : j = i
    · subst hji; rw [upF_same] at hj; cases hj; exact .inl ⟨rfl, rfl⟩
    · rw [upF_ne hji] at hj; exact .inr ⟨hji, by rw [upF_ne hji]; exact hj⟩
  have hno : ∀ j oj, j ≠ i → upF F i (some o) j = some oj → n ∉ oj.own := fun j oj hne hj hm => hne (h.apart j i oj o n hj upF_same hm ((hmem n).2 (.inl rfl)))
  refine ⟨fun j oj hj => ?_, fun j h1 h2 => ?_, fun j oj x hj hx => ?_, fun j j' oj oj' x hj hj' hx hx' => ?_, fun j oj hj => ?_, fun x hx hPx => ?_⟩
  · rcases key j oj hj with ⟨rfl, rfl⟩ | ⟨_, hj2⟩
    · have := h.num j o upF_same; exact ⟨hi.trans this.1, this.2⟩
    · exact h.num j oj hj2
  · by_cases hji : j = i
    · subst hji; exact ⟨o', upF_same⟩
    · obtain ⟨oj, ho⟩ := h.used j h1 h2
      exact ⟨oj, by rw [upF_ne hji]; rw [upF_ne hji] at ho; exact ho⟩
  · rcases key j oj hj with ⟨rfl, rfl⟩ | ⟨hne, hj2⟩
    · have := h.page j o x upF_same ((hmem x).2 (.inr hx))
      exact ⟨this.1, by rw [List.getElem?_set_ne (fun (hh : n = x) => hnd.1 (by rw [hh]; exact hx))]; exact this.2⟩
    · have := h.page j oj x hj2 hx
      exact ⟨this.1, by rw [List.getElem?_set_ne (fun (hh : n = x) => hno j oj hne hj2 (by rw [hh]; exact hx))]; exact this.2⟩
  · rcases key j oj hj with ⟨rfl, rfl⟩ | ⟨hne, hj2⟩
    · rcases key j' oj' hj' with ⟨rfl, rfl⟩ | ⟨hne', hj3⟩
      · rfl
      · exact h.apart j j' o oj' x upF_same hj3 ((hmem x).2 (.inr hx)) hx'
    · rcases key j' oj' hj' with ⟨rfl, rfl⟩ | ⟨hne', hj3⟩
      · exact h.apart j j' oj o x hj2 upF_same hx ((hmem x).2 (.inr hx'))
      · exact h.apart j j' oj oj' x hj2 hj3 hx hx'
  · rcases key j oj hj with ⟨rfl, rfl⟩ | ⟨_, hj2⟩
    · exact hnd.2
    · exact h.nodup j oj hj2
  · have hxn : x ≠ n := fun hh => by
      subst hh; rw [List.getElem?_set_self hlt] at hPx; cases hPx
    rw [List.getElem?_set_ne (Ne.symm hxn)] at hPx
    obtain ⟨j, oj, hj, hm⟩ := h.all x hx hPx
    by_cases hji : j = i
    · subst hji; rw [upF_same] at hj; cases hj
      exact ⟨j, o', upF_same, ((hmem x).1 hm).resolve_left hxn⟩
    · exact ⟨j, oj, by rw [upF_ne hji]; rw [upF_ne hji] at hj; exact hj, hm⟩
end Go.Proofs.YtienelpepioggaaGreat

/- load: an inode is read. -/
namespace Go.Proofs.YtienelpepioggaaGreat
open Go
set_option linter.unusedSimpArgs false
open Go.RowKit (intOf)
theorem slcV_int {g o len cap : Nat} {kx ky : IntKind} {lo hi : Int} {a b : Nat} (h0 : lo = a) (h1 : hi = b) (h2 : a < b) (h3 : b ≤ cap) :
    slcV 1 (some ⟨g, o, none⟩) len cap (some (.int kx lo)) (some (.int ky hi)) none = some (.slice (some ⟨g, o + a, none⟩) (b - a) (cap - a)) := by
  subst h0; subst h1
  simp only [slcV, bndV]
  rw [if_pos ⟨by omega, by omega⟩]
  simp only [Int.toNat_natCast]
  rw [if_pos ⟨by omega, by omega⟩]
  simp only [Int.toNat_natCast]
  rw [if_neg (by omega)]
  simp [add_lit]
theorem enterLoad {Φ : Value → World → Prop} {Ψ : List PanicEntry → World → Prop} {w : World} (v0 v1 : Value) (h : symS 135 Tryz.prog F35 ⟨fun e w => RC 144 (e 4) (fun v w => Φ (.tuple #[v, e 5]) w) w, fun _ _ _ => False, fun e w => RC 144 (e 4) (fun v w => Φ (.tuple #[v, e 5]) w) w, Ψ⟩ (upd (upd env0 0 v0) 1 v1) w) : Calls Tryz.prog 35 #[v0, v1] w (Out Φ Ψ) :=
  calls_symX (args := [v0, v1]) 135 4 5 144 Tryz.func35 (by kernel_rfl) (by kernel_rfl) (by kernel_rfl) Tryz.underlying95 (by kernel_rfl) (by kernel_rfl) (by kernel_rfl) (by simp) F35_eq h
/-- What has been read of the eleven numbers. -/
def Opn.part (o : Opn) (k : Nat) : Opn := if k ≤ 10 then { o with data := o.data.take k, ind := 0 } else { o with data := o.data.take 10 }
theorem Opn.part_set (o : Opn) {k : Nat} (h : k < 11) : (o.part k).cells.set (4 + k) (.int .i64 (o.num k)) = (o.part (k + 1)).cells := by
  by_cases hk : k < 10
  · have h1 := Opn.cells_take { o with ind := 0 } (d := o.data) (k := k) (by omega)
    rw [show slotJ k = 4 + k from if_pos hk] at h1
    rw [Opn.part, if_pos (by omega), Opn.part, if_pos (by omega), Opn.num, if_pos hk]
    exact h1
  · have he : k = 10 := by omega
    subst he
    have h1 := Opn.cells_ind { o with data := o.data.take 10, ind := 0 } o.ind
    rw [Opn.part, if_pos (by omega), Opn.part, if_neg (by omega), Opn.num, if_neg (by omega)]
    exact h1
theorem drop_seg {l r : List UInt8} {at_ j m : Nat} (h : (l.drop at_).take 64 = r) (hj : j + m ≤ 64) : (l.drop (at_ + j)).take m = (r.drop j).take m := by
  subst h
  rw [List.drop_take, List.take_take, List.drop_drop, Nat.min_eq_left (by omega)]
theorem rec_head (o : Opn) : (o.recB.drop 1).take 2 = beB 2 o.mode ∧ (o.recB.drop 3).take 2 = beB 2 o.links ∧ (o.recB.drop 5).take 4 = beB 4 o.size ∧ o.recB[0]? = some (UInt8.ofNat o.kind) := by
  simp [Opn.recB, Opn.headR, beB]
section
variable {G : Gh} {κ μ m p lq came s : Nat} {w : World} {c : Csh} {P I : List Bool} {F : Nat → Option Opn} {B : Nat → List UInt8}
/-- What load answers, and leaves. -/
def LoadR (G : Gh) (κ μ : Nat) (w : World) (m p lq came : Nat) (c : Csh) (P I : List Bool) (F : Nat → Option Opn) (i : Int) (v : Value) (w' : World) : Prop :=
  v = .tuple #[.agg (lookO F I.length i).cells.toArray, .int .i64 (lookC F I.length i)] ∧ ∃ G', Ext (fun x => x = μ) G w G' w' ∧ MapAt G' κ μ w' m p lq came c P I
set_option maxRecDepth 20000 in
set_option maxHeartbeats 4000000 in
theorem load_spec (h : MapAt G κ μ w m p lq came c P I) (hs : StoreAt G w s m) (hf : FsOk c P I F B) {i : Int} :
    Calls Tryz.prog 35 #[.pointer (some ⟨s, 0, none⟩), .int .i64 i] w (Ret fun v w' => LoadR G κ μ w m p lq came c P I F i v w') := by
  obtain ⟨f1, f2, f3, f4, f5, f6, f7, f8⟩ := h.facts
  obtain ⟨hne1, hne2, hne3⟩ := h.1.cache.ne
  have h6 := h.1.ne
  apply enterLoad
  apply R_in
  have hg0 : Grow w (w.alloc (.cells (Value.agg (Array.replicate 144 (.int .i64 0))).cells 95)) := (Keep.refl _ _).alloc _
  have hq0 := OpnAt.new w
  simp (maxSteps := 1000000) (disch := omega) only [↓sy1, sy2, sy3, readOK, sy5, sy6, Nat.reduceEqDiff, ↓reduceIte, sy7, sy8, sy9, sya, oneOf, syb, syc, Nat.reduceAdd, Nat.reduceMul, syd, sye, syf, syg, syh, reduceCtorEq, F35]
  generalize w.alloc (.cells (Value.agg (Array.replicate 144 (.int .i64 0))).cells 95) = w0 at hg0 hq0 ⊢
  have hx0 : Ext0 G w (G.upto w.heap.size (fun _ => 6) (fun _ => 0)) w0 := .upto hg0 _ _
  have h0 := h.ext hx0 id id id
  have hs0 := hs.ext hx0 id
  have ho0 := upto_own (G := G) (o := 6) (f := 0) (Nat.le_refl w.heap.size)
  generalize (G.upto w.heap.size (fun _ => 6) (fun _ => 0)) = G0 at hx0 h0 hs0 ho0
  have hx0' : Ext (fun x => x = μ) G w G0 w0 := hx0.mono (fun _ h => h.elim)
  /- an answer -/
  have fin : ∀ (G1 : Gh) (w1 : World) (o1 o2 : Opn) (code : Int), OpnAt w1 w.heap.size o1 → Ext (fun x => x = μ) G w G1 w1 → MapAt G1 κ μ w1 m p lq came c P I → G1.own w.heap.size = 6 → G1.fix w.heap.size = 0 → lookO F I.length i = o2 → lookC F I.length i = code →
      ∃ w2, stnF w1 144 (.pointer (some ⟨w.heap.size, 0, none⟩)) (.agg o2.cells.toArray) = some (undef, w2) ∧ RC 144 (.pointer (some ⟨w.heap.size, 0, none⟩)) (fun v w' => LoadR G κ μ w m p lq came c P I F i (.tuple #[v, .int .i64 code]) w') w2 := by
    intro G1 w1 o1 o2 code hq hx hm ho hfx e1 e2
    subst e1; subst e2
    obtain ⟨w2, hst, hq2, hk2⟩ := hq.stn (lookO F I.length i)
    exact ⟨w2, hst, _, _, rfl, hq2.load, rfl, G1, hx.then hk2 (Nat.le_refl _), hm.ext (.on0 hk2 ho hfx) h6.1 h6.2 (by omega)⟩
  have hz : Value.agg (Array.replicate 144 (.int .i64 0)) = Value.agg Opn.zero.cells.toArray := by rw [Opn.zero_cells, List.toArray_replicate]
  simp (maxSteps := 1000000) (disch := omega) only [↓sy1, sy2, sy3, readOK, sy5, sy6, Nat.reduceEqDiff, ↓reduceIte, sy7, sy8, sy9, sya, oneOf, syb, syc, Nat.reduceAdd, Nat.reduceMul, syd, sye, syf, syg, syh, reduceCtorEq, hs0.cell]
  refine call0 (table_spec h0.1 (i := i)) ?_
  rintro _ w1 ⟨rfl, rfl⟩
  by_cases hout : i < 0 ∨ (I.length : Int) ≤ i
  · have hc : lookC F I.length i = 2 := if_pos (by omega)
    have ho : lookO F I.length i = Opn.zero := if_pos (by omega)
    rw [tableC, if_pos hout]
    have hfin := fin G0 w1 Opn.zero Opn.zero 2 hq0 hx0' h0 ho0.1 ho0.2 ho hc
    refine hfin.elim fun w3 hfin2 => ?_
    have hst := hfin2.1
    have hrc := hfin2.2
    simp (maxSteps := 1000000) (disch := omega) only [↓sy1, sy2, sy3, readOK, sy5, sy6, Nat.reduceEqDiff, ↓reduceIte, sy7, sy8, sy9, sya, oneOf, syb, syc, Nat.reduceAdd, Nat.reduceMul, syd, sye, syf, syg, syh, reduceCtorEq, hz, Int.reduceEq, decide_false, hst]
    exact R_out hrc
  by_cases hi0 : i = 0
  · subst hi0
    have hc : lookC F I.length 0 = 2 := if_pos (by omega)
    have ho : lookO F I.length 0 = Opn.zero := if_pos (by omega)
    rw [tableC, if_neg hout]
    have hfin := fin G0 w1 Opn.zero Opn.zero 2 hq0 hx0' h0 ho0.1 ho0.2 ho hc
    refine hfin.elim fun w3 hfin2 => ?_
    have hst := hfin2.1
    have hrc := hfin2.2
    simp (maxSteps := 1000000) (disch := omega) only [↓sy1, sy2, sy3, readOK, sy5, sy6, Nat.reduceEqDiff, ↓reduceIte, sy7, sy8, sy9, sya, oneOf, syb, syc, Nat.reduceAdd, Nat.reduceMul, syd, sye, syf, syg, syh, reduceCtorEq, hz, decide_true, not_true_eq_false, hst]
    exact R_out hrc
  obtain ⟨j, rfl⟩ : ∃ j : Nat, i = j := ⟨i.toNat, by omega⟩
  rw [tableC, if_neg hout]
  simp (maxSteps := 1000000) (disch := omega) only [↓sy1, sy2, sy3, readOK, sy5, sy6, Nat.reduceEqDiff, ↓reduceIte, sy7, sy8, sy9, sya, oneOf, syb, syc, Nat.reduceAdd, Nat.reduceMul, syd, sye, syf, syg, syh, reduceCtorEq, hi0, decide_true, not_true_eq_false, decide_false, hs0.cell]
  refine call0 (usedi_ok h0 (n := j)) ?_
  rintro _ w2 ⟨rfl, G2, hx2, h2⟩
  have hq2 : OpnAt w2 w.heap.size Opn.zero := hx2.heap hq0 (by rw [ho0.1]; omega)
  have ho2 : G2.own w.heap.size = 6 ∧ G2.fix w.heap.size = 0 := by rw [hx2.own _ hq0.lt, hx2.fixe _ hq0.lt (by rw [ho0.1]; omega)]; exact ho0
  have hs2 := hs0.ext hx2 (fun hh => hne2 hh.symm)
  have hx02 := hx0'.trans hx2
  have hgetD : I.getD j false = true ↔ I[j]? = some true := by
    rw [List.getD_eq_getElem?_getD]
    cases hI : I[j]? with
    | none => simp
    | some b => simp
  have hus : usedC I (j : Int) = I.getD j false := by
    unfold usedC
    rw [decide_eq_true (by omega), Bool.true_and]; rfl
  rw [hus]
  cases hF : F j with
  | none =>
    have hc : lookC F I.length j = 4 := by unfold lookC; rw [if_neg (by omega), Int.toNat_natCast, hF]; rfl
    have ho : lookO F I.length j = Opn.zero := by unfold lookO; rw [if_neg (by omega), Int.toNat_natCast, hF]; rfl
    have hno : I.getD j false = false := by
      cases hb : I.getD j false with
      | false => rfl
      | true =>
        obtain ⟨o, ho⟩ := hf.own.used j (by omega) (hgetD.1 hb)
        rw [hF] at ho; cases ho
    rw [hno]
    refine (fin G2 w2 Opn.zero Opn.zero 4 hq2 hx02 h2 ho2.1 ho2.2 ho hc).elim fun w3 hfin2 => ?_
    have hst := hfin2.1
    have hrc := hfin2.2
    simp (maxSteps := 1000000) (disch := omega) only [↓sy1, sy2, sy3, readOK, sy5, sy6, Nat.reduceEqDiff, ↓reduceIte, sy7, sy8, sy9, sya, oneOf, syb, syc, Nat.reduceAdd, Nat.reduceMul, syd, sye, syf, syg, syh, reduceCtorEq, hz, hst]
    exact R_out hrc
  | some o =>
    have hc : lookC F I.length j = 0 := by unfold lookC; rw [if_neg (by omega), Int.toNat_natCast, hF]; rfl
    have ho : lookO F I.length j = o := by unfold lookO; rw [if_neg (by omega), Int.toNat_natCast, hF]; rfl
    obtain ⟨i1, i2, i3, i4⟩ := hf.i_lt hF
    have hOk := hf.ok j o hF
    have ok1 := hOk.kind
    have ok2 := hOk.mode
    have ok3 := hOk.links
    have ok4 := hOk.size
    have hR := hf.recs j o hF
    have hnum := hf.num_lt hF
    rw [hgetD.2 (hf.own.num j o hF).2.2]
    have e1 : (3 : Int) + (j : Int) / 8 = ((3 + j / 8 : Nat) : Int) := by omega
    have e2 : (64 : Int) * ((j : Int) % 8) = ((64 * (j % 8) : Nat) : Int) := by omega
    simp (maxSteps := 1000000) (disch := omega) only [↓sy1, sy2, sy3, readOK, sy5, sy6, Nat.reduceEqDiff, ↓reduceIte, sy7, sy8, sy9, sya, oneOf, syb, syc, Nat.reduceAdd, Nat.reduceMul, syd, sye, syf, syg, syh, reduceCtorEq, hs2.cell]
    refine call0 (mcache_spec h2.1) ?_
    rintro _ w3 ⟨rfl, rfl⟩
    rw [e1, e2]
    simp (maxSteps := 1000000) (disch := omega) only [↓sy1, sy2, sy3, readOK, sy5, sy6, Nat.reduceEqDiff, ↓reduceIte, sy7, sy8, sy9, sya, oneOf, syb, syc, Nat.reduceAdd, Nat.reduceMul, syd, sye, syf, syg, syh, reduceCtorEq]
    refine call0 (csread_spec h2.1.cache (n := 3 + j / 8) (by omega)) ?_
    rintro _ w4 ⟨u, G4, rfl, hu, hc4, hx4⟩
    have hpl := h2.1.cache.oks.plen (n := 3 + j / 8) (by omega)
    rw [← hpl] at hu
    obtain ⟨g, cap, rfl, hcap, hBg, hrow⟩ := ByteRow.own hu (by intro hh; rw [hh] at hpl; simp at hpl)
    have h4 := h2.1.put hx4 (fun hh => hne2 hh.symm) hc4 rfl
    have h4' : MapAt G4 κ μ w4 m p lq came c P I := ⟨h4, h2.2⟩
    have hs4 := hs2.ext hx4 (fun hh => hne2 hh.symm)
    have hq4 : OpnAt w4 w.heap.size Opn.zero := hx4.heap hq2 (by rw [ho2.1]; omega)
    have ho4 : G4.own w.heap.size = 6 ∧ G4.fix w.heap.size = 0 := by rw [hx4.own _ hq2.lt, hx4.fixe _ hq2.lt (by rw [ho2.1]; omega)]; exact ho2
    have hx04 := hx02.trans hx4
    have hgq : g ≠ w.heap.size := by have := hq2.lt; omega
    have hat : 64 * (j % 8) + 64 ≤ 512 := by omega
    have hseg := hR.seg
    rw [i4] at hseg
    obtain ⟨w5, hst5, hq5, hk5⟩ := OpnAt.store (o' := { Opn.zero with i := j }) hq4 (j := 15) (by omega) (u := .int .i64 j) rfl (Opn.cells_i _ _)
    rw [hpl] at hcap ⊢
    simp (maxSteps := 1000000) (disch := omega) only [↓sy1, sy2, sy3, readOK, sy5, sy6, Nat.reduceEqDiff, ↓reduceIte, sy7, sy8, sy9, sya, oneOf, syb, syc, Nat.reduceAdd, Nat.reduceMul, syd, sye, syf, syg, syh, reduceCtorEq, slcV_int (g := g) (o := 0) (len := 512) (cap := cap) (kx := .i64) (ky := .i64) (lo := ((64 * (j % 8) : Nat) : Int)) (hi := ((64 * (j % 8) : Nat) : Int) + 64) (a := 64 * (j % 8)) (b := 64 * (j % 8) + 64) rfl (by omega) (by omega) (by omega), Nat.add_sub_cancel_left, Nat.zero_add, hst5]
    have hrow5 := hrow.keep hk5 hgq
    have hx05 := hx04.then hk5 (Nat.le_refl _)
    have h5 := h4'.ext (.on0 hk5 ho4.1 ho4.2) h6.1 h6.2 (by omega)
    have hs5 := hs4.ext (.on0 hk5 ho4.1 ho4.2) (by omega)
    refine draw35_0 (fun _ => False) ?_
    have hgd : Grow w5 w5.drew := (Keep.refl _ _).drew
    have hrow6 := hrow5.keep hgd id
    have hx06 := hx05.trans (.grow hgd)
    have h6m := h5.grow hgd
    have hs6 := hs5.grow hgd
    have hq6 := hq5.keep hgd id
    clear hrow5 hx05 h5 hs5 hst5 hq5 hk5 hrow hx04 h4' h4 hq4 hs4 hc4 hx4 hx02 hx2 h2 hs2 hq2 hx0' hs0 h0 hx0
    generalize w5.drew = w6 at hgd hrow6 hx06 h6m hs6 hq6 ⊢
    obtain ⟨r1, r2, r3, r4⟩ := rec_head o
    have hp2 : ∀ k m, k + m ≤ 64 → HasB w6 (.slice (some ⟨g, 64 * (j % 8) + k, none⟩) m (cap - 64 * (j % 8) - k)) (((c.page (3 + j / 8)).drop (64 * (j % 8) + k)).take m) := fun k m hkm =>
      hrow6.part (by omega) (by omega)
    have g1 := hp2 1 2 (by omega)
    have g2 := hp2 3 2 (by omega)
    have g3 := hp2 5 4 (by omega)
    rw [drop_seg hseg (by omega), r1] at g1
    rw [drop_seg hseg (by omega), r2] at g2
    rw [drop_seg hseg (by omega), r3] at g3
    have hk0 : w6.cell? ⟨g, 64 * (j % 8), none⟩ = some (.int .u8 (o.kind : Int)) := by
      rw [hrow6.cell (i := 64 * (j % 8)) (by omega)]
      have e3 : (c.page (3 + j / 8))[64 * (j % 8)]? = some (UInt8.ofNat o.kind) := by
        rw [← r4, ← hseg]; simp
      rw [List.getElem?_eq_getElem (by omega)] at e3
      rw [Option.some.inj e3, UInt8.toNat_ofNat', Nat.mod_eq_of_lt (by have := hOk.kind; omega)]
    have hia0 : iaF 1 (.slice (some ⟨g, 64 * (j % 8), none⟩) 64 (cap - 64 * (j % 8))) (.int .i64 0) = some (.pointer (some ⟨g, 64 * (j % 8), none⟩)) := by
      rw [iaF_s (by omega), add_lit]; simp
    obtain ⟨w7, st0, q7, k7⟩ := OpnAt.store (o' := { Opn.zero with i := j, kind := o.kind }) hq6 (j := 0) (by omega) (u := .int .i64 o.kind) rfl (Opn.cells_kind _ _)
    obtain ⟨w8, st1, q8, k8⟩ := OpnAt.store (o' := { Opn.zero with i := j, kind := o.kind, mode := o.mode }) q7 (j := 1) (by omega) (u := .int .i64 o.mode) rfl (Opn.cells_mode _ _)
    obtain ⟨w9, st2, q9, k9⟩ := OpnAt.store (o' := { Opn.zero with i := j, kind := o.kind, mode := o.mode, links := o.links }) q8 (j := 2) (by omega) (u := .int .i64 o.links) rfl (Opn.cells_links _ _)
    obtain ⟨w10, st3, q10, k10⟩ := OpnAt.store (o' := { Opn.zero with i := j, kind := o.kind, mode := o.mode, links := o.links, size := o.size }) q9 (j := 3) (by omega) (u := .int .i64 o.size) rfl (Opn.cells_size _ _)
    have hsl : ∀ (lo hi : Int) (a b : Nat), lo = a → hi = b → a < b → b ≤ 64 → slcV 1 (some ⟨g, 64 * (j % 8), none⟩) 64 (cap - 64 * (j % 8)) (some (.int .i64 lo)) (some (.int .i64 hi)) none = some (.slice (some ⟨g, 64 * (j % 8) + a, none⟩) (b - a) (cap - 64 * (j % 8) - a)) := fun lo hi a b e1 e2 h1 h2 =>
      slcV_int e1 e2 h1 (by omega)
    have hs13 : slcV 1 (some ⟨g, 64 * (j % 8), none⟩) 64 (cap - 64 * (j % 8)) (some (.int .i64 1)) (some (.int .i64 3)) none = some (.slice (some ⟨g, 64 * (j % 8) + 1, none⟩) 2 (cap - 64 * (j % 8) - 1)) := hsl 1 3 1 3 rfl rfl (by omega) (by omega)
    have hs35 : slcV 1 (some ⟨g, 64 * (j % 8), none⟩) 64 (cap - 64 * (j % 8)) (some (.int .i64 3)) (some (.int .i64 5)) none = some (.slice (some ⟨g, 64 * (j % 8) + 3, none⟩) 2 (cap - 64 * (j % 8) - 3)) := hsl 3 5 3 5 rfl rfl (by omega) (by omega)
    have hs59 : slcV 1 (some ⟨g, 64 * (j % 8), none⟩) 64 (cap - 64 * (j % 8)) (some (.int .i64 5)) (some (.int .i64 9)) none = some (.slice (some ⟨g, 64 * (j % 8) + 5, none⟩) 4 (cap - 64 * (j % 8) - 5)) := hsl 5 9 5 9 rfl rfl (by omega) (by omega)
    have b2 : beN (beB 2 o.mode) = o.mode := beN_beB (by have := hOk.mode; omega)
    have b3 : beN (beB 2 o.links) = o.links := beN_beB (by have := hOk.links; omega)
    have b4 : beN (beB 4 o.size) = o.size := beN_beB (by have := hOk.size; omega)
    simp (maxSteps := 1000000) (disch := omega) only [↓sy1, sy2, sy3, readOK, sy5, sy6, Nat.reduceEqDiff, ↓reduceIte, sy7, sy8, sy9, sya, oneOf, syb, syc, Nat.reduceAdd, Nat.reduceMul, syd, sye, syf, syg, syh, reduceCtorEq, PL35_0, hia0, hk0, hs13, hs35, hs59]
    refine call0 (get_spec g1 (by rw [beB_length]; omega)) ?_
    rintro _ w6' ⟨rfl, rfl⟩
    rw [b2]
    simp (maxSteps := 1000000) (disch := omega) only [↓sy1, sy2, sy3, readOK, sy5, sy6, Nat.reduceEqDiff, ↓reduceIte, sy7, sy8, sy9, sya, oneOf, syb, syc, Nat.reduceAdd, Nat.reduceMul, syd, sye, syf, syg, syh, reduceCtorEq]
    refine ⟨Keep.refl _ _, ?_⟩
    refine call0 (get_spec g2 (by rw [beB_length]; omega)) ?_
    rintro _ w6b ⟨rfl, rfl⟩
    rw [b3]
    simp (maxSteps := 1000000) (disch := omega) only [↓sy1, sy2, sy3, readOK, sy5, sy6, Nat.reduceEqDiff, ↓reduceIte, sy7, sy8, sy9, sya, oneOf, syb, syc, Nat.reduceAdd, Nat.reduceMul, syd, sye, syf, syg, syh, reduceCtorEq]
    refine ⟨Keep.refl _ _, ?_⟩
    refine call0 (get_spec g3 (by rw [beB_length]; omega)) ?_
    rintro _ w6c ⟨rfl, rfl⟩
    rw [b4]
    simp (maxSteps := 1000000) (disch := omega) only [↓sy1, sy2, sy3, readOK, sy5, sy6, Nat.reduceEqDiff, ↓reduceIte, sy7, sy8, sy9, sya, oneOf, syb, syc, Nat.reduceAdd, Nat.reduceMul, syd, sye, syf, syg, syh, reduceCtorEq, st0, st1, st2, st3]
    refine ⟨Keep.refl _ _, ?_⟩
    have hk10 : Keep (fun b => b = w.heap.size) w6c w10 := ((k7.trans k8).trans k9).trans k10
    have hpart : ({ Opn.zero with i := j, kind := o.kind, mode := o.mode, links := o.links, size := o.size } : Opn) = o.part 0 := by
      rw [Opn.part, if_pos (by omega), ← i4]; rfl
    rw [hpart] at q10
    clear k7 k8 k9 k10 st0 st1 st2 st3 q7 q8 q9 hpart hk0 hia0 hs13 hs35 hs59 g1 g2 g3
    refine loop_rule (fun e w' => ∃ k : Nat, k ≤ 11 ∧ e 81 = .int .i64 k ∧ e 8 = .slice (some ⟨g, 64 * (j % 8), none⟩) 64 (cap - 64 * (j % 8)) ∧ e 4 = .pointer (some ⟨w.heap.size, 0, none⟩) ∧ e 0 = .pointer (some ⟨s, 0, none⟩) ∧ OpnAt w' w.heap.size (o.part k) ∧ Keep (fun b => b = w.heap.size) w6c w') (fun e _ => 11 - (intOf (e 81)).toNat)
      ⟨0, by omega, by simp [upd, updO, ev], by simp [upd, updO, ev], by simp [upd, updO, ev], by simp [upd, updO, ev], q10, hk10⟩ ?_
    rintro e wk ⟨k, hk, e81, e8, e4, e0, hqk, hkk⟩
    by_cases hlt : k < 11
    · have hrk := hrow6.keep hkk hgq
      have hsk : slcV 1 (some ⟨g, 64 * (j % 8), none⟩) 64 (cap - 64 * (j % 8)) (some (.int .i64 (9 + 4 * (k : Int)))) (some (.int .i64 (13 + 4 * (k : Int)))) none = some (.slice (some ⟨g, 64 * (j % 8) + (9 + 4 * k), none⟩) 4 (cap - 64 * (j % 8) - (9 + 4 * k))) := by
        have := hsl (9 + 4 * (k : Int)) (13 + 4 * (k : Int)) (9 + 4 * k) (13 + 4 * k) (by omega) (by omega) (by omega) (by omega)
        rw [this, show 13 + 4 * k - (9 + 4 * k) = 4 from by omega]
      have gk : HasB wk (.slice (some ⟨g, 64 * (j % 8) + (9 + 4 * k), none⟩) 4 (cap - 64 * (j % 8) - (9 + 4 * k))) (beB 4 (o.num k)) := by
        have := hrk.part (o := 64 * (j % 8) + (9 + 4 * k)) (m := 4) (c := cap - 64 * (j % 8) - (9 + 4 * k)) (by omega) (by omega)
        rw [drop_seg hseg (by omega), o.rec_num hlt] at this
        exact this
      have hia : iaaF 11 1 (.pointer (some ⟨w.heap.size, 4, none⟩)) (.int .i64 (k : Int)) = some (.pointer (some ⟨w.heap.size, 4 + k, none⟩)) := by
        rw [iaaF_s (by omega), add_lit]; simp
      have bk : beN (beB 4 (o.num k)) = o.num k := beN_beB (by have := (hnum k).2; omega)
      obtain ⟨w11, st, q11, k11⟩ := OpnAt.store hqk (j := 4 + k) (by omega) (u := .int .i64 (o.num k)) rfl (o.part_set hlt)
      simp (maxSteps := 1000000) (disch := omega) only [↓sy1, sy2, sy3, readOK, sy5, sy6, Nat.reduceEqDiff, ↓reduceIte, sy7, sy8, sy9, sya, oneOf, syb, syc, Nat.reduceAdd, Nat.reduceMul, syd, sye, syf, syg, syh, reduceCtorEq, F35_L0, e81, e8, e4, e0, show (k : Int) < 11 from by omega, decide_true, hsk]
      refine call0 (get_spec gk (by rw [beB_length]; omega)) ?_
      rintro _ wk' ⟨rfl, rfl⟩
      rw [bk]
      simp (maxSteps := 1000000) (disch := omega) only [↓sy1, sy2, sy3, readOK, sy5, sy6, Nat.reduceEqDiff, ↓reduceIte, sy7, sy8, sy9, sya, oneOf, syb, syc, Nat.reduceAdd, Nat.reduceMul, syd, sye, syf, syg, syh, reduceCtorEq, e81, e8, e4, e0, hia, st]
      exact R_out ⟨⟨k + 1, by omega, rfl, q11, hkk.trans k11⟩, by simp only [intOf]; omega⟩
    have hke : k = 11 := by omega
    subst hke
    rw [show ((11 : Nat) : Int) = 11 from rfl] at e81
    have hc14 := hqk.cell (j := 14) (by omega)
    have hc0 := hqk.cell (j := 0) (by omega)
    have hp14 : (o.part 11).cell 14 = o.ind := rfl
    have hp0 : (o.part 11).cell 0 = o.kind := rfl
    rw [hp14] at hc14
    rw [hp0] at hc0
    have hia : iaaF 11 1 (.pointer (some ⟨w.heap.size, 4, none⟩)) (.int .i64 10) = some (.pointer (some ⟨w.heap.size, 14, none⟩)) := rfl
    have hxk := hx06.then hkk (Nat.le_refl _)
    have hmk : MapAt G4 κ μ wk m p lq came c P I := h6m.ext (.on0 hkk ho4.1 ho4.2) h6.1 h6.2 (by omega)
    have hstk : StoreAt G4 wk s m := hs6.ext (.on0 hkk ho4.1 ho4.2) (by omega)
    by_cases hind : o.ind = 0
    · have hd : o.part 11 = o := by
        have := hOk.ind.1 hind
        rw [Opn.part, if_neg (by omega), List.take_of_length_le this]
      rw [hd] at hqk
      refine (fin G4 wk o o 0 hqk hxk hmk ho4.1 ho4.2 ho hc).elim fun w12 hfin2 => ?_
      have hst := hfin2.1
      have hrc := hfin2.2
      simp (maxSteps := 1000000) (disch := omega) only [↓sy1, sy2, sy3, readOK, sy5, sy6, Nat.reduceEqDiff, ↓reduceIte, sy7, sy8, sy9, sya, oneOf, syb, syc, Nat.reduceAdd, Nat.reduceMul, syd, sye, syf, syg, syh, reduceCtorEq, F35_L0, e81, e8, e4, e0, Int.reduceLT, decide_true, decide_false, hc0, show ¬ ((o.kind : Int) = 0) from by omega, hia, hc14, hind, not_true_eq_false, show ((0 : Nat) : Int) = 0 from rfl, hqk.load, hst]
      exact R_out hrc
    · have hin := hf.lt hF (n := o.ind) (by simp [Opn.own, hind])
      simp (maxSteps := 1000000) (disch := omega) only [↓sy1, sy2, sy3, readOK, sy5, sy6, Nat.reduceEqDiff, ↓reduceIte, sy7, sy8, sy9, sya, oneOf, syb, syc, Nat.reduceAdd, Nat.reduceMul, syd, sye, syf, syg, syh, reduceCtorEq, F35_L0, e81, e8, e4, e0, Int.reduceLT, decide_true, decide_false, hc0, show ¬ ((o.kind : Int) = 0) from by omega, hia, hc14, show ¬ ((o.ind : Int) = 0) from by omega, hstk.cell]
      refine call0 (mcache_spec hmk.1) ?_
      rintro _ w11 ⟨rfl, rfl⟩
      simp (maxSteps := 1000000) (disch := omega) only [↓sy1, sy2, sy3, readOK, sy5, sy6, Nat.reduceEqDiff, ↓reduceIte, sy7, sy8, sy9, sya, oneOf, syb, syc, Nat.reduceAdd, Nat.reduceMul, syd, sye, syf, syg, syh, reduceCtorEq, e81, e8, e4, e0]
      refine call0 (csread_spec hmk.1.cache (n := o.ind) hin.2.1) ?_
      rintro _ w12 ⟨u2, G5, rfl, hu2, hc5, hx5⟩
      have hpl2 := hmk.1.cache.oks.plen (n := o.ind) hin.2.1
      rw [← hpl2] at hu2
      obtain ⟨g5, cap5, rfl, hcap5, hBg5, hrow5⟩ := ByteRow.own hu2 (by intro hh; rw [hh] at hpl2; simp at hpl2)
      rw [hpl2] at hcap5
      rw [hR.ind hind] at hrow5 hpl2
      have hq5 : OpnAt w12 w.heap.size (o.part 11) := hx5.heap hqk (by rw [ho4.1]; omega)
      have ho5 : G5.own w.heap.size = 6 ∧ G5.fix w.heap.size = 0 := by rw [hx5.own _ hqk.lt, hx5.fixe _ hqk.lt (by rw [ho4.1]; omega)]; exact ho4
      have hm5 : MapAt G5 κ μ w12 m p lq came c P I := ⟨hmk.1.put hx5 (fun hh => hne2 hh.symm) hc5 rfl, hmk.2⟩
      have hx05 := hxk.trans hx5
      have hgq5 : g5 ≠ w.heap.size := by have := hqk.lt; omega
      have hl5 := hOk.data
      have hl138 := pagesN_le ok4
      have hpt : o.part 11 = { o with data := o.data.take (10 + 0) } := rfl
      rw [hpt] at hq5
      rw [hR.ind hind, hpl2]
      simp (maxSteps := 1000000) (disch := omega) only [↓sy1, sy2, sy3, readOK, sy5, sy6, Nat.reduceEqDiff, ↓reduceIte, sy7, sy8, sy9, sya, oneOf, syb, syc, Nat.reduceAdd, Nat.reduceMul, syd, sye, syf, syg, syh, reduceCtorEq, e81, e8, e4, e0]
      refine loop_rule (fun e w' => ∃ k : Nat, k ≤ 128 ∧ e 119 = .int .i64 k ∧ e 12 = .slice (some ⟨g5, 0, none⟩) 512 cap5 ∧ e 4 = .pointer (some ⟨w.heap.size, 0, none⟩) ∧ OpnAt w' w.heap.size { o with data := o.data.take (10 + k) } ∧ Keep (fun b => b = w.heap.size) w12 w') (fun e _ => 128 - (intOf (e 119)).toNat)
        ⟨0, by omega, by simp [upd, updO, ev], by simp [upd, updO, ev], by simp [upd, updO, ev, e4], hq5, Keep.refl _ _⟩ ?_
      rintro e' wk' ⟨k, hk, e119, e12, e4', hqk', hkk'⟩
      by_cases hlt : k < 128
      · have hrk := hrow5.keep hkk' hgq5
        have hsk : slcV 1 (some ⟨g5, 0, none⟩) 512 cap5 (some (.int .i64 (4 * (k : Int)))) (some (.int .i64 (4 * (k : Int) + 4))) none = some (.slice (some ⟨g5, 0 + 4 * k, none⟩) 4 (cap5 - 4 * k)) := by
          have := slcV_int (g := g5) (o := 0) (len := 512) (cap := cap5) (kx := .i64) (ky := .i64) (lo := 4 * (k : Int)) (hi := 4 * (k : Int) + 4) (a := 4 * k) (b := 4 * k + 4) (by omega) (by omega) (by omega) (by omega)
          rw [this, show 4 * k + 4 - 4 * k = 4 from by omega]
        have gk : HasB wk' (.slice (some ⟨g5, 0 + 4 * k, none⟩) 4 (cap5 - 4 * k)) (beB 4 (o.data.getD (10 + k) 0)) := by
          have := hrk.part (o := 0 + 4 * k) (m := 4) (c := cap5 - 4 * k) (by omega) (by omega)
          rw [Nat.zero_add, o.ind_num hlt] at this
          rw [Nat.zero_add]; exact this
        have hia2 : iaaF 128 1 (.pointer (some ⟨w.heap.size, 16, none⟩)) (.int .i64 (k : Int)) = some (.pointer (some ⟨w.heap.size, 16 + k, none⟩)) := by
          rw [iaaF_s (by omega), add_lit]; simp
        have bk : beN (beB 4 (o.data.getD (10 + k) 0)) = o.data.getD (10 + k) 0 := beN_beB (by have := (hnum (10 + k)).1; omega)
        have bl := (hnum (10 + k)).1
        have hset := Opn.cells_take o (d := o.data) (k := 10 + k) (by omega)
        rw [show slotJ (10 + k) = 16 + k from by rw [slotJ, if_neg (by omega)]; omega] at hset
        obtain ⟨w13, st, q13, k13⟩ := OpnAt.store hqk' (j := 16 + k) (by omega) (u := .int .i64 (o.data.getD (10 + k) 0 : Nat)) rfl hset
        simp (maxSteps := 1000000) (disch := omega) only [↓sy1, sy2, sy3, readOK, sy5, sy6, Nat.reduceEqDiff, ↓reduceIte, sy7, sy8, sy9, sya, oneOf, syb, syc, Nat.reduceAdd, Nat.reduceMul, syd, sye, syf, syg, syh, reduceCtorEq, F35_L1, e119, e12, e4', show (k : Int) < 128 from by omega, decide_true, hsk]
        refine call0 (get_spec gk (by rw [beB_length]; omega)) ?_
        rintro _ wk2 ⟨rfl, rfl⟩
        rw [bk]
        simp (maxSteps := 1000000) (disch := omega) only [↓sy1, sy2, sy3, readOK, sy5, sy6, Nat.reduceEqDiff, ↓reduceIte, sy7, sy8, sy9, sya, oneOf, syb, syc, Nat.reduceAdd, Nat.reduceMul, syd, sye, syf, syg, syh, reduceCtorEq, e119, e12, e4', hia2, st]
        exact R_out ⟨⟨k + 1, by omega, rfl, q13, hkk'.trans k13⟩, by simp only [intOf]; omega⟩
      have hke : k = 128 := by omega
      subst hke
      rw [show ((128 : Nat) : Int) = 128 from rfl] at e119
      have hd : ({ o with data := o.data.take (10 + 128) } : Opn) = o := by rw [List.take_of_length_le (by omega)]
      rw [hd] at hqk'
      have hxe := hx05.then hkk' (Nat.le_refl _)
      have hme : MapAt G5 κ μ wk' m p lq came c P I := hm5.ext (.on0 hkk' ho5.1 ho5.2) h6.1 h6.2 (by omega)
      refine (fin G5 wk' o o 0 hqk' hxe hme ho5.1 ho5.2 ho hc).elim fun w14 hfin2 => ?_
      have hst := hfin2.1
      have hrc := hfin2.2
      simp (maxSteps := 1000000) (disch := omega) only [↓sy1, sy2, sy3, readOK, sy5, sy6, Nat.reduceEqDiff, ↓reduceIte, sy7, sy8, sy9, sya, oneOf, syb, syc, Nat.reduceAdd, Nat.reduceMul, syd, sye, syf, syg, syh, reduceCtorEq, F35_L1, e119, e12, e4', Int.reduceLT, decide_true, decide_false, hqk'.load, hst]
      exact R_out hrc
end
end Go.Proofs.YtienelpepioggaaGreat

/- Which pages are written, and when there is no room. -/
namespace Go.Proofs.YtienelpepioggaaGreat
open Go
set_option linter.unusedSimpArgs false
/-- From c to c' nothing but pages of L have been written. -/
structure Dty (L : List Nat) (c c' : Csh) : Prop where
  N : c'.N = c.N
  D : c'.D = c.D
  size : c'.size = c.size
  q : ∀ n, n ∉ L → c'.q n = c.q n
section
variable {L L' : List Nat} {c c' c'' : Csh}
theorem Dty.refl (L : List Nat) (c : Csh) : Dty L c c := ⟨rfl, rfl, rfl, fun _ _ => rfl⟩
theorem Dty.trans (h : Dty L c c') (h' : Dty L c' c'') : Dty L c c'' := ⟨h'.N.trans h.N, h'.D.trans h.D, h'.size.trans h.size, fun n hn => (h'.q n hn).trans (h.q n hn)⟩
theorem Dty.mono (h : Dty L c c') (hs : ∀ n ∈ L, n ∈ L') : Dty L' c c' := ⟨h.N, h.D, h.size, fun n hn => h.q n (fun hh => hn (hs n hh))⟩
theorem Dty.app (h : Dty L c c') (h' : Dty L' c' c'') : Dty (L ++ L') c c'' := (h.mono (fun n hn => by simp [hn])).trans (h'.mono (fun n hn => by simp [hn]))
theorem Dty.cap (h : Dty L c c') : c'.cap = c.cap := by simp only [Csh.cap, h.size]
theorem Dty.page (h : Dty L c c') {n : Nat} (hn : n ∉ L) : c'.page n = c.page n := by simp only [Csh.page, h.q n hn, h.D, h.size]
theorem Dty.write {n : Nat} {b : List UInt8} (hn : n ∈ L) : Dty L c (c.write n b) := ⟨rfl, rfl, rfl, fun m hm => by simp only [Csh.write, qput]; rw [if_neg (fun (hh : m = n) => hm (by rw [hh]; exact hn))]⟩
theorem Dty.abort (h : Dty L c c') (n : Nat) : c'.abort.page n = c.abort.page n := by simp only [Csh.page, Csh.abort, h.D, h.size]
theorem Dty.sub (h : Dty L c c') {n : Nat} (hn : n ∈ c'.dirty) : n ∈ c.dirty ∨ n ∈ L := by
  by_cases hL : n ∈ L
  · exact .inr hL
  · left
    rw [Csh.dirty, mem_keysQ] at hn ⊢
    rw [← h.N, ← h.q n hL]; exact hn
theorem dirty_nodup (c : Csh) : c.dirty.Nodup := nodup_lt (keysQ_rise _ _)
theorem Dty.len (h : Dty L c c') : c'.dirty.length ≤ c.dirty.length + L.length := by
  have := List.Nodup.length_le_of_subset (dirty_nodup c') (l₂ := c.dirty ++ L) (fun n hn => by rw [List.mem_append]; exact h.sub hn)
  rw [List.length_append] at this; exact this
/-- A page that could not be written. -/
theorem Dty.full (h : Dty L c c') {n : Nat} (hn : n ∈ L) (hN : n < c'.N) (hw : c'.wcode n 512 ≠ 0) : c.cap < c.dirty.length + L.length := by
  have h1 : c'.q n = none ∧ c'.cap ≤ c'.dirty.length := by
    unfold Csh.wcode at hw
    rw [if_neg (by omega), if_neg (by omega)] at hw
    by_cases hh : c'.q n = none ∧ c'.cap ≤ c'.dirty.length
    · exact hh
    · rw [if_neg (by simpa using hh)] at hw; exact absurd rfl hw
  have h2 : n ∉ c'.dirty := fun hm => by
    obtain ⟨_, b, hb⟩ := mem_keysQ.1 hm
    rw [h1.1] at hb; cases hb
  have := List.Nodup.length_le_of_subset (List.nodup_cons.2 ⟨h2, dirty_nodup c'⟩) (l₂ := c.dirty ++ L) (fun m hm => by
    rw [List.mem_append]
    rcases List.mem_cons.1 hm with rfl | hm
    · exact .inr hn
    · exact h.sub hm)
  rw [List.length_append, List.length_cons] at this
  have := h.cap
  omega
theorem fold_mem : ∀ (l S : List Int) (n : Int), n ∈ l.foldl insK S → n ∈ S ∨ n ∈ l
  | [], S, n, h => .inl h
  | a :: l, S, n, h => by
    rcases fold_mem l _ n h with h | h
    · unfold insK at h
      split at h
      · exact .inl h
      · rcases List.mem_append.1 h with h | h
        · exact .inl h
        · simp at h; exact .inr (by simp [h])
    · exact .inr (by simp [h])
theorem fold_nd : ∀ (l S : List Int), S.Nodup → (l.foldl insK S).Nodup
  | [], S, h => h
  | a :: l, S, h => fold_nd l _ (by
    unfold insK
    split
    · exact h
    · rename_i ha
      rw [List.nodup_append]
      exact ⟨h, by simp, fun x hx y hy => by simp at hy; subst hy; exact fun hh => ha (hh ▸ hx)⟩)
/-- Pages for which there was no room. -/
theorem Dty.nofit (h : Dty L c c') {l : List Int} (hl : ∀ x ∈ l, ∃ n ∈ L, x = ((n : Nat) : Int)) (hf : c'.fits l = false) : c.cap < c.dirty.length + L.length := by
  have hf : ¬ (fitK c' l).length ≤ c'.cap := of_decide_eq_false hf
  have hnd : (fitK c' l).Nodup := fold_nd l _ (zs_nodup (dirty_nodup c'))
  have := List.Nodup.length_le_of_subset hnd (l₂ := zs (c.dirty ++ L)) (fun x hx => by
    rcases fold_mem l _ x hx with hx | hx
    · obtain ⟨n, hn, rfl⟩ := List.mem_map.1 hx
      refine mem_zs.2 (List.mem_append.2 (h.sub hn))
    · obtain ⟨n, hn, rfl⟩ := hl x hx
      exact mem_zs.2 (List.mem_append.2 (.inr hn)))
  rw [zs_len, List.length_append] at this
  have := h.cap
  omega
end
theorem len_range {l : List Nat} {N : Nat} (hd : l.Nodup) (h : ∀ n ∈ l, n < N) : l.length ≤ N := by
  have := List.Nodup.length_le_of_subset hd (l₂ := List.range N) (fun n hn => List.mem_range.2 (h n hn))
  simpa using this
theorem dirty_lt {c : Csh} {n : Nat} (h : n ∈ c.dirty) : n < c.N := (mem_keysQ.1 h).1
theorem Dty.fullN {L : List Nat} {c c' : Csh} (h : Dty L c c') {n : Nat} (hN : n < c'.N) (hw : c'.wcode n 512 ≠ 0) : c.cap < c.N := by
  have h1 : c'.q n = none ∧ c'.cap ≤ c'.dirty.length := by
    unfold Csh.wcode at hw
    rw [if_neg (by omega), if_neg (by omega)] at hw
    by_cases hh : c'.q n = none ∧ c'.cap ≤ c'.dirty.length
    · exact hh
    · rw [if_neg (by simpa using hh)] at hw; exact absurd rfl hw
  have h2 : n ∉ c'.dirty := fun hm => by
    obtain ⟨_, b, hb⟩ := mem_keysQ.1 hm
    rw [h1.1] at hb; cases hb
  have := len_range (l := n :: c'.dirty) (N := c'.N) (List.nodup_cons.2 ⟨h2, dirty_nodup c'⟩) (fun m hm => by
    rcases List.mem_cons.1 hm with rfl | hm
    · exact hN
    · exact dirty_lt hm)
  rw [List.length_cons] at this
  have := h.cap
  have := h.N
  omega
/-- An inode's record, and its indirect page, are written. -/
def Csh.save1 (c : Csh) (o : Opn) : Csh := c.write (3 + o.i / 8) (patch (c.page (3 + o.i / 8)) (64 * (o.i % 8)) o.recB)
def Csh.save (c : Csh) (o : Opn) : Csh := if o.ind = 0 then c.save1 o else (c.save1 o).write o.ind o.ind4
theorem Csh.save1_dty (c : Csh) (o : Opn) : Dty [3 + o.i / 8, o.ind] c (c.save1 o) := .write (by simp)
theorem Csh.save_dty (c : Csh) (o : Opn) : Dty [3 + o.i / 8, o.ind] c (c.save o) := by
  unfold Csh.save
  split
  · exact c.save1_dty o
  · exact (c.save1_dty o).trans (.write (by simp))
theorem Csh.save_dty0 (c : Csh) {o : Opn} (h : o.ind = 0) : Dty [3 + o.i / 8] c (c.save o) := by
  unfold Csh.save
  rw [if_pos h]
  exact .write (by simp)
end Go.Proofs.YtienelpepioggaaGreat

/- A page is written, taken, given back, or there is no room; where a page is named; an inode is saved. -/
namespace Go.Proofs.YtienelpepioggaaGreat
open Go
set_option linter.unusedSimpArgs false
open Go.RowKit (intOf)
section
variable {G : Gh} {κ μ m p lq came s k : Nat} {w : World} {c : Csh} {P I : List Bool} {F : Nat → Option Opn} {B : Nat → List UInt8}
theorem iwrite_spec (h : MapC G κ μ w m p lq came c k) (hs : StoreAt G w s m) {n : Nat} {bv : Value} {b : List UInt8} (hb : HasB w bv b) (hl : b.length = 512) :
    Calls Tryz.prog 41 #[.pointer (some ⟨s, 0, none⟩), .int .i64 n, bv] w (RetF (fun _ w' => c.wcode n 512 = 0 ∧ ∃ G', Ext (fun x => x = μ) G w G' w' ∧ MapC G' κ μ w' m p lq came (c.write n b) k)
      (fun w' => c.wcode n 512 ≠ 0 ∧ ∃ G', Ext (fun x => x = μ) G w G' w' ∧ MapC G' κ μ w' m p lq came c k)) := by
  obtain ⟨hne1, hne2, hne3⟩ := h.cache.ne
  apply enter41
  apply R_in
  simp (maxSteps := 1000000) (disch := omega) only [↓sy1, sy2, sy3, readOK, sy5, sy6, Nat.reduceEqDiff, ↓reduceIte, sy7, sy8, sy9, sya, oneOf, syb, syc, Nat.reduceAdd, Nat.reduceMul, syd, sye, syf, syg, syh, reduceCtorEq, F41, hs.cell]
  refine call0 (mcache_spec h) ?_
  rintro _ w1 ⟨rfl, rfl⟩
  simp (maxSteps := 1000000) (disch := omega) only [↓sy1, sy2, sy3, readOK, sy5, sy6, Nat.reduceEqDiff, ↓reduceIte, sy7, sy8, sy9, sya, oneOf, syb, syc, Nat.reduceAdd, Nat.reduceMul, syd, sye, syf, syg, syh, reduceCtorEq]
  refine call0 (cswrite_spec h.cache (n := n) hb (by omega)) ?_
  rintro _ w2 ⟨rfl, G2, hc2, hx2⟩
  rw [hl] at hc2 ⊢
  by_cases h0 : c.wcode n 512 = 0
  · rw [if_pos h0, Int.toNat_natCast] at hc2
    simp (maxSteps := 1000000) (disch := omega) only [↓sy1, sy2, sy3, readOK, sy5, sy6, Nat.reduceEqDiff, ↓reduceIte, sy7, sy8, sy9, sya, oneOf, syb, syc, Nat.reduceAdd, Nat.reduceMul, syd, sye, syf, syg, syh, reduceCtorEq, h0, decide_true, not_true_eq_false]
    exact R_out ⟨G2, hx2, h.put hx2 (fun hh => hne2 hh.symm) hc2 rfl⟩
  · rw [if_neg h0] at hc2
    simp (maxSteps := 1000000) (disch := omega) only [↓sy1, sy2, sy3, readOK, sy5, sy6, Nat.reduceEqDiff, ↓reduceIte, sy7, sy8, sy9, sya, oneOf, syb, syc, Nat.reduceAdd, Nat.reduceMul, syd, sye, syf, syg, syh, reduceCtorEq, h0, decide_false]
    refine panic_rule (by simp only [upd_at, Nat.reduceEqDiff, reduceIte, ev_tmp, ev_const, List.map_cons, List.map_nil]; rfl) ?_
    exact ⟨rfl, h0, G2, hx2, h.put hx2 (fun hh => hne2 hh.symm) hc2 rfl⟩
theorem itake_spec (h : MapAt G κ μ w m p lq came c P I) (hs : StoreAt G w s m) :
    Calls Tryz.prog 72 #[.pointer (some ⟨s, 0, none⟩)] w (RetF (fun v w' => v = .int .i64 (firstN P : Nat) ∧ firstN P < P.length ∧ ∃ G', Ext (fun x => x = μ) G w G' w' ∧ MapAt G' κ μ w' m p lq came (c.taken (firstN P)) (P.set (firstN P) true) I)
      (fun w' => (firstN P < P.length → c.fits [2, (firstN P : Int)] = false) ∧ ∃ G', Ext (fun x => x = μ) G w G' w' ∧ MapAt G' κ μ w' m p lq came c P I)) := by
  apply enter72
  apply R_in
  simp (maxSteps := 1000000) (disch := omega) only [↓sy1, sy2, sy3, readOK, sy5, sy6, Nat.reduceEqDiff, ↓reduceIte, sy7, sy8, sy9, sya, oneOf, syb, syc, Nat.reduceAdd, Nat.reduceMul, syd, sye, syf, syg, syh, reduceCtorEq, F72, hs.cell]
  refine call0 (page_spec h) ?_
  rintro _ w2 ⟨G2, hx2, h2⟩
  rcases h2 with ⟨rfl, h3, h4⟩ | ⟨rfl, h3, _, h4⟩
  · simp (maxSteps := 1000000) (disch := omega) only [↓sy1, sy2, sy3, readOK, sy5, sy6, Nat.reduceEqDiff, ↓reduceIte, sy7, sy8, sy9, sya, oneOf, syb, syc, Nat.reduceAdd, Nat.reduceMul, syd, sye, syf, syg, syh, reduceCtorEq, Int.reduceEq, decide_false]
    refine panic_rule (by simp only [upd_at, Nat.reduceEqDiff, reduceIte, ev_tmp, ev_const, List.map_cons, List.map_nil]; rfl) ?_
    exact ⟨rfl, h3, G2, hx2, h4⟩
  · simp (maxSteps := 1000000) (disch := omega) only [↓sy1, sy2, sy3, readOK, sy5, sy6, Nat.reduceEqDiff, ↓reduceIte, sy7, sy8, sy9, sya, oneOf, syb, syc, Nat.reduceAdd, Nat.reduceMul, syd, sye, syf, syg, syh, reduceCtorEq, decide_true, not_true_eq_false]
    exact R_out ⟨h3, G2, hx2, h4⟩
/-- GivePage, whatever the room. -/
def GivePR (G : Gh) (κ μ : Nat) (w : World) (m p lq came : Nat) (c : Csh) (P I : List Bool) (n : Nat) (v : Value) : Prop :=
  (v = .int .i64 7 ∧ c.fits [2] = false ∧ MapAt G κ μ w m p lq came c P I) ∨ (v = .int .i64 0 ∧ MapAt G κ μ w m p lq came (c.turnP n) (P.set n false) I)
theorem givepage_spec (h : MapAt G κ μ w m p lq came c P I) {n : Nat} (hn : 3 + I.length / 8 ≤ n) (hP : P[n]? = some true) :
    Calls Tryz.prog 88 #[.pointer (some ⟨m, 0, none⟩), .int .i64 n] w (Ret fun v w' => ∃ G', Ext (fun x => x = μ) G w G' w' ∧ GivePR G' κ μ w' m p lq came c P I n v) := by
  obtain ⟨f1, f2, f3, f4, f5, f6, f7, f8⟩ := h.facts
  have hlt := (List.getElem?_eq_some_iff.1 hP).1
  apply enter88
  apply R_in
  simp (maxSteps := 1000000) (disch := omega) only [↓sy1, sy2, sy3, readOK, sy5, sy6, Nat.reduceEqDiff, ↓reduceIte, sy7, sy8, sy9, sya, oneOf, syb, syc, Nat.reduceAdd, Nat.reduceMul, syd, sye, syf, syg, syh, reduceCtorEq, F88]
  refine call0 (firstc_spec h.1.cells.2 (by omega)) ?_
  rintro _ w1 ⟨rfl, rfl⟩
  simp (maxSteps := 1000000) (disch := omega) only [↓sy1, sy2, sy3, readOK, sy5, sy6, Nat.reduceEqDiff, ↓reduceIte, sy7, sy8, sy9, sya, oneOf, syb, syc, Nat.reduceAdd, Nat.reduceMul, syd, sye, syf, syg, syh, reduceCtorEq]
  refine call0 (give_spec h.1 (pg := 2) (.inr rfl) (L := P) h.2.p f1 (n := n) (least := 3 + I.length / 8)) ?_
  rintro _ w2 ⟨G2, hx2, rfl, h2⟩
  have hg0 : giveC P (n : Int) (3 + I.length / 8 : Nat) = 0 := by
    unfold giveC
    rw [if_neg (by omega), Int.toNat_natCast, if_pos hP]
  rw [hg0, show (((2 : Nat) : Int)) = 2 from rfl, Int.toNat_natCast] at h2
  rw [hg0, show (((2 : Nat) : Int)) = 2 from rfl]
  cases hf : c.fits [(2 : Int)] with
  | false =>
    rw [hf, if_neg (by simp)] at h2
    rw [if_pos ⟨rfl, rfl⟩]
    simp (maxSteps := 1000000) (disch := omega) only [↓sy1, sy2, sy3, readOK, sy5, sy6, Nat.reduceEqDiff, ↓reduceIte, sy7, sy8, sy9, sya, oneOf, syb, syc, Nat.reduceAdd, Nat.reduceMul, syd, sye, syf, syg, syh, reduceCtorEq]
    exact R_out ⟨G2, hx2, .inl ⟨rfl, hf, h2, h.2⟩⟩
  | true =>
    rw [hf, if_pos ⟨rfl, rfl⟩] at h2
    rw [if_neg (by simp)]
    simp (maxSteps := 1000000) (disch := omega) only [↓sy1, sy2, sy3, readOK, sy5, sy6, Nat.reduceEqDiff, ↓reduceIte, sy7, sy8, sy9, sya, oneOf, syb, syc, Nat.reduceAdd, Nat.reduceMul, syd, sye, syf, syg, syh, reduceCtorEq]
    refine R_out ⟨G2, hx2, .inr ⟨rfl, h2, ?_⟩⟩
    exact h.2.flipP f8 hn hP
theorem igive_spec (h : MapAt G κ μ w m p lq came c P I) (hs : StoreAt G w s m) {n : Nat} (hn : 3 + I.length / 8 ≤ n) (hP : P[n]? = some true) :
    Calls Tryz.prog 73 #[.pointer (some ⟨s, 0, none⟩), .int .i64 n] w (RetF (fun _ w' => ∃ G', Ext (fun x => x = μ) G w G' w' ∧ MapAt G' κ μ w' m p lq came (c.turnP n) (P.set n false) I)
      (fun w' => c.fits [2] = false ∧ ∃ G', Ext (fun x => x = μ) G w G' w' ∧ MapAt G' κ μ w' m p lq came c P I)) := by
  apply enter73
  apply R_in
  simp (maxSteps := 1000000) (disch := omega) only [↓sy1, sy2, sy3, readOK, sy5, sy6, Nat.reduceEqDiff, ↓reduceIte, sy7, sy8, sy9, sya, oneOf, syb, syc, Nat.reduceAdd, Nat.reduceMul, syd, sye, syf, syg, syh, reduceCtorEq, F73, hs.cell]
  refine call0 (givepage_spec h hn hP) ?_
  rintro _ w2 ⟨G2, hx2, h2⟩
  rcases h2 with ⟨rfl, h3, h4⟩ | ⟨rfl, h4⟩
  · simp (maxSteps := 1000000) (disch := omega) only [↓sy1, sy2, sy3, readOK, sy5, sy6, Nat.reduceEqDiff, ↓reduceIte, sy7, sy8, sy9, sya, oneOf, syb, syc, Nat.reduceAdd, Nat.reduceMul, syd, sye, syf, syg, syh, reduceCtorEq, Int.reduceEq, decide_false]
    refine panic_rule (by simp only [upd_at, Nat.reduceEqDiff, reduceIte, ev_tmp, ev_const, List.map_cons, List.map_nil]; rfl) ?_
    exact ⟨rfl, h3, G2, hx2, h4⟩
  · simp (maxSteps := 1000000) (disch := omega) only [↓sy1, sy2, sy3, readOK, sy5, sy6, Nat.reduceEqDiff, ↓reduceIte, sy7, sy8, sy9, sya, oneOf, syb, syc, Nat.reduceAdd, Nat.reduceMul, syd, sye, syf, syg, syh, reduceCtorEq, decide_true, not_true_eq_false]
    exact R_out ⟨G2, hx2, h4⟩
theorem slot_spec {q j : Nat} (hj : j < 138) : Calls Tryz.prog 38 #[.pointer (some ⟨q, 0, none⟩), .int .i64 j] w (Ret fun v w' => v = .pointer (some ⟨q, slotJ j, none⟩) ∧ w' = w) := by
  apply enter38
  apply R_in
  by_cases h : j < 10
  · have hia : iaaF 11 1 (.pointer (some ⟨q, 4, none⟩)) (.int .i64 (j : Int)) = some (.pointer (some ⟨q, 4 + j, none⟩)) := by
      rw [iaaF_s (by omega), add_lit]; simp
    simp (maxSteps := 1000000) (disch := omega) only [↓sy1, sy2, sy3, readOK, sy5, sy6, Nat.reduceEqDiff, ↓reduceIte, sy7, sy8, sy9, sya, oneOf, syb, syc, Nat.reduceAdd, Nat.reduceMul, syd, sye, syf, syg, syh, reduceCtorEq, F38, show (j : Int) < 10 from by omega, decide_true, hia]
    exact R_out (by rw [slotJ, if_pos h])
  · have hia : iaaF 128 1 (.pointer (some ⟨q, 16, none⟩)) (.int .i64 ((j : Int) - 10)) = some (.pointer (some ⟨q, 6 + j, none⟩)) := by
      rw [iaaF_s (by omega), add_lit, show ((j : Int) - 10).toNat = j - 10 from by omega, show 16 + (j - 10) * 1 = 6 + j from by omega]
    simp (maxSteps := 1000000) (disch := omega) only [↓sy1, sy2, sy3, readOK, sy5, sy6, Nat.reduceEqDiff, ↓reduceIte, sy7, sy8, sy9, sya, oneOf, syb, syc, Nat.reduceAdd, Nat.reduceMul, syd, sye, syf, syg, syh, reduceCtorEq, F38, show ¬ ((j : Int) < 10) from by omega, decide_false, hia]
    exact R_out (by rw [slotJ, if_neg h])
end
end Go.Proofs.YtienelpepioggaaGreat
