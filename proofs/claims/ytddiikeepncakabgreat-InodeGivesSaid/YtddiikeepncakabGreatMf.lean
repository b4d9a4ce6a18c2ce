/- Texts of one claim, put together in their order. -/
import Derived.Test.YtddiikeepncakabGreatMe
import Derived.RangeFuncNested
import Derived.RangeFuncBound
import Derived.RangeFuncCalls
import Derived.RangeFuncLeaves
import Derived.RangeFuncBox
import Derived.Shelf.Abstract
import Derived.Shelf.RegionOpen
import Derived.WalkKit
import Derived.OwnWalkIn
import Derived.TacticsInMore
import Derived.LoopNIn
import Derived.LoopIn
namespace Go.Proofs.YtddiikeepncakabGreat
open Go
set_option linter.unusedSimpArgs false
open Go.RowKit (intOf)
theorem flat_part {d : List Nat} {f : Nat -> List UInt8} {k : Nat} {n : Nat} (h : ∀ x ∈ d, (f x).length = 512) (hk : d[k]? = some n) : ((d.flatMap f).drop (512 * k)).take 512 = f n := by
  induction d generalizing k with
  | nil => simp at hk
  | cons a d ih =>
    have ha := h a (by simp)
    cases k with
    | zero =>
      simp at hk; subst hk
      rw [List.flatMap_cons, Nat.mul_zero, List.drop_zero, List.take_append_of_le_length (by omega), List.take_of_length_le (by omega)]
    | succ k =>
      simp at hk
      rw [List.flatMap_cons, List.drop_append, ha, List.drop_eq_nil_of_le (by omega), List.nil_append, show 512 * (k + 1) - 512 = 512 * k from by omega]
      exact ih (fun x hx => h x (by simp [hx])) hk
theorem patch_page {l y : List UInt8} {k o : Nat} (h : 512 * (k + 1) <= l.length) (ho : o + y.length <= 512) : patch l (512 * k) (patch ((l.drop (512 * k)).take 512) o y) = patch l (512 * k + o) y := by
  have hl : ((l.drop (512 * k)).take 512).length = 512 := by simp; omega
  have h1 : patch l (512 * k) ((l.drop (512 * k)).take 512) = l := by
    unfold patch
    rw [hl, List.append_assoc, <- List.drop_drop, List.take_append_drop, List.take_append_drop]
  conv => rhs; rw [<- h1]
  rw [patch_patch (by rw [hl]; omega) (by rw [hl]; exact ho)]
theorem patch_tail {l : List UInt8} {a n : Nat} (h : a + n = l.length) : patch l a (List.replicate n 0) = l.take a ++ List.replicate n 0 := by
  unfold patch
  rw [List.drop_eq_nil_of_le (by simp; omega), List.append_nil]
theorem slot_page {o : Opn} {k : Nat} (h : k < o.data.length) : o.data[k]? = some (o.cell (slotJ k)) /\ o.cell (slotJ k) ∈ o.own := by
  rw [o.cell_slot, List.getD_eq_getElem?_getD, List.getElem?_eq_getElem h]
  exact ⟨rfl, by simp [Opn.own]⟩
section
variable {G : Gh} {κ μ m p lq came s q i : Nat} {w : World} {c : Csh} {P I : List Bool} {F : Nat -> Option Opn} {B : Nat -> List UInt8} {o : Opn} {b : List UInt8} {size : Nat}
set_option maxRecDepth 20000 in
set_option maxHeartbeats 4000000 in
theorem resize_cut (h : MapAt G κ μ w m p lq came c P I) (hs : StoreAt G w s m) (hq : OpnAt w q o) (ho : G.own q = 6 /\ G.fix q = 0) (hm : FMid c P I F B i o) (hok : o.Ok) (hb : Holds c o b) (hgr : size < o.size) :
    Calls Tryz.prog 45 #[.pointer (some ⟨s, 0, none⟩), .pointer (some ⟨q, 0, none⟩), .int .i64 size] w (RetF (fun _ w' => RszR G κ μ w m p lq came c P I F B i q o b size w')
      (fun w' => Stop (fun x => x = μ \/ x = 6) G κ μ w m p lq came I.length c (freeN P + needN o.size) (needN size) 2 w')) := by
  obtain ⟨hne1, hne2, hne3⟩ := h.1.cache.ne
  have h6 := h.1.ne
  have hos := hok.size
  have hod := hok.data
  have hoi := hok.ind
  have hp1 : pagesN o.size <= 138 := pagesN_le hos
  have hpm : pagesN size <= pagesN o.size := by unfold pagesN; omega
  have hx6 : ∀ x, x = μ -> x = μ \/ x = 6 := fun x hh => .inl hh
  have hx6' : ∀ x, x = 6 -> x = μ \/ x = 6 := fun x hh => .inr hh
  have hnm : 6 ≠ μ := fun hh => h6.2 hh.symm
  apply enter45
  apply R_in
  have hc3 := hq.cell (j := 3) (by omega)
  rw [show o.cell 3 = o.size from rfl] at hc3
  simp (maxSteps := 999999) (disch := omega) only [↓sy1, sZ, readOK, Nat.reduceEqDiff, ↓reduceIte, oneOf, Nat.reduceAdd, Nat.reduceMul, reduceCtorEq, F45, hc3]
  refine call0 (ipages_spec (n := o.size) (by omega)) ?_
  rintro _ w1 ⟨rfl, hw1⟩
  subst w1
  simp (maxSteps := 999999) (disch := omega) only [↓sy1, sZ, readOK, Nat.reduceEqDiff, ↓reduceIte, oneOf, Nat.reduceAdd, Nat.reduceMul, reduceCtorEq]
  refine loop_rule (fun e' w' => e' 6 = .int .i64 (pagesN o.size : Nat) /\ e' 0 = .pointer (some ⟨s, 0, none⟩) /\ e' 1 = .pointer (some ⟨q, 0, none⟩) /\ e' 2 = .int .i64 size /\ w' = w) (fun _ _ => 0)
    ⟨by simp [upd, updO, ev], by simp [upd, updO, ev], by simp [upd, updO, ev], by simp [upd, updO, ev], rfl⟩ ?_
  rintro e w1 ⟨e6, e0, e1, e2, hw1⟩
  subst w1
  simp (maxSteps := 999999) (disch := omega) only [↓sy1, sZ, readOK, Nat.reduceEqDiff, ↓reduceIte, oneOf, Nat.reduceAdd, Nat.reduceMul, reduceCtorEq, F45_L0, e6, e0, e1, e2]
  refine call0 (ipages_spec (n := size) (by omega)) ?_
  rintro _ w1 ⟨rfl, hw1⟩
  subst w1
  simp (maxSteps := 999999) (disch := omega) only [↓sy1, sZ, readOK, Nat.reduceEqDiff, ↓reduceIte, oneOf, Nat.reduceAdd, Nat.reduceMul, reduceCtorEq, e6, e0, e1, e2, Int.ofNat_lt, show ¬(pagesN o.size < pagesN size) from by omega, decide_false, hc3]
  refine call0 (ipages_spec (n := o.size) (by omega)) ?_
  rintro _ w1 ⟨rfl, hw1⟩
  subst w1
  simp (maxSteps := 999999) (disch := omega) only [↓sy1, sZ, readOK, Nat.reduceEqDiff, ↓reduceIte, oneOf, Nat.reduceAdd, Nat.reduceMul, reduceCtorEq]
  refine loop_rule (fun e w' => ∃ (k : Nat) (G' : Gh) (c' : Csh) (P' : List Bool) (o' : Opn), pagesN size <= k /\ e 7 = .int .i64 ((k : Int) - 1) /\ e 0 = .pointer (some ⟨s, 0, none⟩) /\ e 1 = .pointer (some ⟨q, 0, none⟩) /\ e 2 = .int .i64 size /\
      Ext (fun x => x = μ \/ x = 6) G w G' w' /\ MapAt G' κ μ w' m p lq came c' P' I /\ StoreAt G' w' s m /\ OpnAt w' q o' /\ (G'.own q = 6 /\ G'.fix q = 0) /\ Shr c P o I F B i c' P' o' /\ o'.data.length = k /\ (o'.ind = 0 ↔ k <= 10)) (fun e _ => (intOf (e 7) + 1).toNat)
    ⟨pagesN o.size, G, c, P, o, hpm, by simp [upd, updO, ev], by simp [upd, updO, ev, e0], by simp [upd, updO, ev, e1], by simp [upd, updO, ev, e2], .refl _ _ _, h, hs, hq, ho,
      .refl hm (fun n hn => h.1.cache.oks.plen (hm.pg (by simp [Opn.own, hn])).2.2.1), hod, by rw [<- hod]; exact hoi⟩ ?_
  clear e6 e0 e1 e2
  rintro e w2 ⟨k, G2, c2, P2, o2, hk, e7, e0, e1, e2, hx2, h2, hs2, hq2, ho2, hg2, hl2, hi2⟩
  have hle2 := hg2.le
  have hpl2 : ∀ n ∈ o2.own, (c2.page n).length = 512 := fun n hn => h2.1.cache.oks.plen (hg2.mid.pg hn).2.2.1
  simp (maxSteps := 999999) (disch := omega) only [↓sy1, sZ, readOK, Nat.reduceEqDiff, ↓reduceIte, oneOf, Nat.reduceAdd, Nat.reduceMul, reduceCtorEq, F45_L1, e7, e0, e1, e2]
  refine call0 (ipages_spec (n := size) (by omega)) ?_
  rintro _ w3 ⟨rfl, hw3⟩
  subst w3
  have nogive : ∀ {G' : Gh} {c' : Csh} {w' : World} {P' : List Bool} {o' : Opn}, Ext (fun x => x = μ \/ x = 6) G w G' w' -> MapC G' κ μ w' m p lq came c' I.length -> Shr c P o I F B i c' P' o' -> c'.fits [2] = false -> Stop (fun x => x = μ \/ x = 6) G κ μ w m p lq came I.length c (freeN P + needN o.size) (needN size) 2 w' :=
    fun hx hm hg hf => ⟨_, _, _, hx, hm, hg.dty, .inr ⟨(hg.stop hf).1, by have := (hg.stop hf).2; omega⟩⟩
  by_cases hlt : pagesN size < k
  · have hj : ((k : Int) - 1) = ((k - 1 : Nat) : Int) := by omega
    have hsp := slot_page (o := o2) (k := k - 1) (by omega)
    have hcell := hq2.cell (j := slotJ (k - 1)) (slotJ_lt (by omega))
    obtain ⟨g1, g2, g3, g4⟩ := hg2.mid.pg hsp.2
    have hng : o2.data.getD (o2.data.length - 1) 0 = o2.cell (slotJ (k - 1)) := by rw [o2.cell_slot, hl2]
    rw [hj] at e7
    rw [hj]
    simp (maxSteps := 999999) (disch := omega) only [↓sy1, sZ, readOK, Nat.reduceEqDiff, ↓reduceIte, oneOf, Nat.reduceAdd, Nat.reduceMul, reduceCtorEq, e7, e0, e1, e2, show (((pagesN size : Nat) : Int) <= ((k - 1 : Nat) : Int)) from by omega, decide_true]
    refine call0 (slot_spec (q := q) (j := k - 1) (by omega)) ?_
    rintro _ w3 ⟨rfl, hw3⟩
    subst w3
    simp (maxSteps := 999999) (disch := omega) only [↓sy1, sZ, readOK, Nat.reduceEqDiff, ↓reduceIte, oneOf, Nat.reduceAdd, Nat.reduceMul, reduceCtorEq, hcell, e7, e0, e1, e2]
    refine callF (igive_spec h2 hs2 g1 g2) ?_ ?_
    · rintro w3 ⟨hf, G3, hx3, h3⟩
      exact ⟨rfl, nogive (hx2.trans (hx3.mono hx6)) h3.1 hg2 hf⟩
    rintro _ w3 ⟨G3, hx3, h3⟩
    have hq3 : OpnAt w3 q o2 := hx3.heap hq2 (by rw [ho2.1]; exact hnm)
    have ho3 : G3.own q = 6 /\ G3.fix q = 0 := by rw [hx3.own _ hq2.lt, hx3.fixe _ hq2.lt (by rw [ho2.1]; exact hnm)]; exact ho2
    have hs3 := hs2.ext hx3 (fun hh => hne2 hh.symm)
    have hne : o2.data ≠ [] := by intro hh; rw [hh] at hl2; simp at hl2; omega
    have hg3 := hg2.data h2.facts.2.2.2.2.2.2.2 hne (fun n hn => hpl2 n (by simp [Opn.own, hn]))
    rw [hng] at hg3
    have hset := Opn.cells_pop o2 hne (by omega)
    rw [hl2] at hset
    obtain ⟨w4, st4, hq4, hk4⟩ := OpnAt.store hq3 (j := slotJ (k - 1)) (slotJ_lt (by omega)) (u := .int .i64 (0 : Nat)) rfl hset
    have hxs : Ext (fun x => x = 6) G3 w3 G3 w4 := .on0 hk4 ho3.1 ho3.2
    have hx4 := (hx2.trans (hx3.mono hx6)).trans (hxs.mono hx6')
    have h4 := h3.ext hxs h6.1 h6.2 (by omega)
    have hs4 := hs3.ext hxs (by omega)
    rw [show ((0 : Nat) : Int) = 0 from rfl] at st4
    have hl4 : ({ o2 with data := o2.data.dropLast } : Opn).data.length = k - 1 := by simp [hl2]
    simp (maxSteps := 999999) (disch := omega) only [↓sy1, sZ, readOK, Nat.reduceEqDiff, ↓reduceIte, oneOf, Nat.reduceAdd, Nat.reduceMul, reduceCtorEq, e7, e0, e1, e2]
    refine call0 (slot_spec (q := q) (j := k - 1) (by omega)) ?_
    rintro _ w5 ⟨rfl, hw5⟩
    subst w5
    by_cases h11 : k = 11
    · have hind : o2.ind ≠ 0 := fun hh => by have := hi2.1 hh; omega
      have hc14 := hq4.cell (j := 14) (by omega)
      rw [show ({ o2 with data := o2.data.dropLast } : Opn).cell 14 = o2.ind from rfl] at hc14
      have hia : iaaF 11 1 (.pointer (some ⟨q, 4, none⟩)) (.int .i64 10) = some (.pointer (some ⟨q, 14, none⟩)) := rfl
      obtain ⟨i1, i2, i3, i4⟩ := hg3.mid.pg (n := o2.ind) (by simp [Opn.own, hind])
      simp (maxSteps := 999999) (disch := omega) only [↓sy1, sZ, readOK, Nat.reduceEqDiff, ↓reduceIte, oneOf, Nat.reduceAdd, Nat.reduceMul, reduceCtorEq, e7, e0, e1, e2, st4, show ((k - 1 : Nat) : Int) = 10 from by omega, decide_true, hia, hc14]
      refine callF (igive_spec h4 hs4 i1 i2) ?_ ?_
      · rintro w5 ⟨hf, G5, hx5, h5⟩
        exact ⟨rfl, nogive (hx4.trans (hx5.mono hx6)) h5.1 hg3 hf⟩
      rintro _ w5 ⟨G5, hx5, h5⟩
      have hq5 := (show OpnAt w5 q _ from hx5.heap hq4 (by rw [ho3.1]; exact hnm))
      have ho5 : G5.own q = 6 /\ G5.fix q = 0 := by rw [hx5.own _ hq4.lt, hx5.fixe _ hq4.lt (by rw [ho3.1]; exact hnm)]; exact ho3
      have hg5 := hg3.ind h4.facts.2.2.2.2.2.2.2 hind
      obtain ⟨w6, st6, hq6, hk6⟩ := OpnAt.store hq5 (j := 14) (by omega) (u := .int .i64 (0 : Nat)) rfl (Opn.cells_ind _ _)
      have hxs6 : Ext (fun x => x = 6) G5 w5 G5 w6 := .on0 hk6 ho5.1 ho5.2
      rw [show ((0 : Nat) : Int) = 0 from rfl] at st6
      simp (maxSteps := 999999) (disch := omega) only [↓sy1, sZ, readOK, Nat.reduceEqDiff, ↓reduceIte, oneOf, Nat.reduceAdd, Nat.reduceMul, reduceCtorEq, e7, e0, e1, e2, hia, st6, show ((k - 1 : Nat) : Int) = 10 from by omega]
      refine R_out ⟨⟨10, G5, _, _, _, by omega, rfl, (hx4.trans (hx5.mono hx6)).trans (hxs6.mono hx6'), h5.ext hxs6 h6.1 h6.2 (by omega), (hs4.ext hx5 (fun hh => hne2 hh.symm)).ext hxs6 (by omega), hq6, ho5, hg5, by simp [hl2, h11], by simp⟩, by simp only [intOf]; omega⟩
    · simp (maxSteps := 999999) (disch := omega) only [↓sy1, sZ, readOK, Nat.reduceEqDiff, ↓reduceIte, oneOf, Nat.reduceAdd, Nat.reduceMul, reduceCtorEq, e7, e0, e1, e2, st4, show ¬(((k - 1 : Nat) : Int) = 10) from by omega, decide_false]
      refine R_out ⟨⟨k - 1, G3, _, _, _, by omega, rfl, hx4, h4, hs4, hq4, ho3, hg3, hl4, ?_⟩, by simp only [intOf]; omega⟩
      show o2.ind = 0 ↔ _
      rw [hi2]; omega
  have hke : k = pagesN size := by omega
  subst hke
  have hc3' := hq2.cell (j := 3) (by omega)
  rw [show o2.cell 3 = o2.size from rfl, hg2.like.size] at hc3'
  have hrem : ((size : Nat) : Int).tmod 512 = ((size % 512 : Nat) : Int) := rfl
  have hfl2 := hg2.flat
  have hbl := hb.len
  rw [hb.flat, hl2, hod, <- hbl] at hfl2
  by_cases hr : size % 512 = 0
  · obtain ⟨w6, st6, hq6, hk6⟩ := OpnAt.store hq2 (j := 3) (by omega) (u := .int .i64 (size : Nat)) rfl (Opn.cells_size _ _)
    have hxs : Ext (fun x => x = 6) G2 w2 G2 w6 := .on0 hk6 ho2.1 ho2.2
    simp (maxSteps := 999999) (disch := omega) only [↓sy1, sZ, readOK, Nat.reduceEqDiff, ↓reduceIte, oneOf, Nat.reduceAdd, Nat.reduceMul, reduceCtorEq, e7, e0, e1, e2, show ¬(((pagesN size : Nat) : Int) <= ((pagesN size : Nat) : Int) - 1) from by omega, decide_false, hrem, hc3', Int.ofNat_lt, hgr, decide_true, hr, show ¬((0 : Int) < ((0 : Nat) : Int)) from by omega, st6]
    refine R_out ⟨G2, c2, P2, _, hx2.trans (hxs.mono hx6'), h2.ext hxs h6.1 h6.2 (by omega), hq6, ho2, hg2.done hok (by omega) hl2 hi2 hg2.mid (hg2.dty.mono (by simp)) ?_⟩
    rw [hfl2]
    exact rszB_cut (by omega) (by unfold pagesN; omega) (by unfold pagesN; omega)
  have hpk : pagesN size = size / 512 + 1 := by unfold pagesN; omega
  have hsp := slot_page (o := o2) (k := size / 512) (by omega)
  have hcell := hq2.cell (j := slotJ (size / 512)) (slotJ_lt (by omega))
  generalize hn : o2.cell (slotJ (size / 512)) = n at hsp hcell
  obtain ⟨g1, g2, g3, g4⟩ := hg2.mid.pg hsp.2
  simp (maxSteps := 999999) (disch := omega) only [↓sy1, sZ, readOK, Nat.reduceEqDiff, ↓reduceIte, oneOf, Nat.reduceAdd, Nat.reduceMul, reduceCtorEq, e7, e0, e1, e2, show ¬(((pagesN size : Nat) : Int) <= ((pagesN size : Nat) : Int) - 1) from by omega, decide_false, hrem, hc3', Int.ofNat_lt, hgr, decide_true, show (0 : Int) < ((size % 512 : Nat) : Int) from by omega]
  refine call0 (ipages_spec (n := size) (by omega)) ?_
  rintro _ w3 ⟨rfl, hw3⟩
  subst w3
  simp (maxSteps := 999999) (disch := omega) only [↓sy1, sZ, readOK, Nat.reduceEqDiff, ↓reduceIte, oneOf, Nat.reduceAdd, Nat.reduceMul, reduceCtorEq, show ((pagesN size : Nat) : Int) - 1 = ((size / 512 : Nat) : Int) from by omega]
  refine call0 (slot_spec (q := q) (j := size / 512) (by omega)) ?_
  rintro _ w3 ⟨rfl, hw3⟩
  subst w3
  simp (maxSteps := 999999) (disch := omega) only [↓sy1, sZ, readOK, Nat.reduceEqDiff, ↓reduceIte, oneOf, Nat.reduceAdd, Nat.reduceMul, reduceCtorEq, hcell, hs2.cell, e0, e1, e2]
  refine call0 (mcache_spec h2.1) ?_
  rintro _ w3 ⟨rfl, hw3⟩
  subst w3
  simp (maxSteps := 999999) (disch := omega) only [↓sy1, sZ, readOK, Nat.reduceEqDiff, ↓reduceIte, oneOf, Nat.reduceAdd, Nat.reduceMul, reduceCtorEq]
  refine call0 (pread_spec h2.1 (n := n) g3) ?_
  rintro _ w3 ⟨g, cap, G3, rfl, hcap, hgw, hrow, hog, h3, hx3⟩
  have hq3 : OpnAt w3 q o2 := hx3.heap hq2 (by rw [ho2.1]; exact hnm)
  have ho3 : G3.own q = 6 /\ G3.fix q = 0 := by rw [hx3.own _ hq2.lt, hx3.fixe _ hq2.lt (by rw [ho2.1]; exact hnm)]; exact ho2
  have hs3 := hs2.ext hx3 (fun hh => hne2 hh.symm)
  have hpl := hpl2 n hsp.2
  simp (maxSteps := 999999) (disch := omega) only [↓sy1, sZ, readOK, Nat.reduceEqDiff, ↓reduceIte, oneOf, Nat.reduceAdd, Nat.reduceMul, reduceCtorEq, slcV_from (g := g) (o := 0) (len := 512) (cap := cap) (kx := .i64) (lo := ((size % 512 : Nat) : Int)) (a := size % 512) rfl (by omega) hcap, Nat.zero_add]
  refine clearB_rule (by simp only [upd_at, Nat.reduceEqDiff, reduceIte, ev_tmp, ev_const, List.map_cons, List.map_nil]; rfl) hrow (by omega) (by omega) ?_
  intro w4 hk4 hrow4
  have hxs4 : Ext (fun x => x = 6) G3 w3 G3 w4 := .on0 hk4 hog.1 hog.2
  have hgq : q ≠ g := by have := hq2.lt; omega
  have hq4 := hq3.keep hk4 hgq
  have h4 : MapC G3 κ μ w4 m p lq came c2 I.length := h3.ext hxs4 h6.1 h6.2 (by omega)
  have hs4 := hs3.ext hxs4 (by omega)
  have hx4 := (hx2.trans (hx3.mono hx6)).trans (hxs4.mono hx6')
  have hpt := patch_tail (l := c2.page n) (a := size % 512) (n := 512 - size % 512) (by omega)
  have hptl := patch_length (l := c2.page n) (o := size % 512) (b := List.replicate (512 - size % 512) 0) (by simp; omega)
  rw [hpl] at hptl
  have hbr : HasB w4 (.slice (some ⟨g, 0, none⟩) 512 cap) (patch (c2.page n) (size % 512) (List.replicate (512 - size % 512) 0)) := by
    have := hrow4.part (o := 0) (m := 512) (c := cap) (by omega) hcap
    rw [List.drop_zero, List.take_of_length_le (by omega)] at this
    exact this
  simp (maxSteps := 999999) (disch := omega) only [↓sy1, sZ, readOK, Nat.reduceEqDiff, ↓reduceIte, oneOf, Nat.reduceAdd, Nat.reduceMul, reduceCtorEq, e0, e1, e2]
  refine callF (iwrite_spec h4 hs4 hbr hptl) ?_ ?_
  · rintro w5 ⟨hw, G5, hx5, h5⟩
    have hd : Dty [2, n] c c2 := hg2.dty.mono (by simp)
    refine ⟨rfl, G5, c2, _, hx4.trans (hx5.mono hx6), h5, hd, .inr ⟨hd.fullN (n := n) g3 hw, ?_⟩⟩
    exact hd.full (n := n) (by simp) g3 hw
  rintro _ w5 ⟨hw, G5, hx5, h5⟩
  have hq5 : OpnAt w5 q o2 := hx5.heap hq4 (by rw [ho3.1]; exact hnm)
  have ho5 : G5.own q = 6 /\ G5.fix q = 0 := by rw [hx5.own _ hq4.lt, hx5.fixe _ hq4.lt (by rw [ho3.1]; exact hnm)]; exact ho3
  obtain ⟨w6, st6, hq6, hk6⟩ := OpnAt.store hq5 (j := 3) (by omega) (u := .int .i64 (size : Nat)) rfl (Opn.cells_size _ _)
  have hxs : Ext (fun x => x = 6) G5 w5 G5 w6 := .on0 hk6 ho5.1 ho5.2
  have hmid := hg2.mid.write (b := patch (c2.page n) (size % 512) (List.replicate (512 - size % 512) 0)) hsp.2
  simp (maxSteps := 999999) (disch := omega) only [↓sy1, sZ, readOK, Nat.reduceEqDiff, ↓reduceIte, oneOf, Nat.reduceAdd, Nat.reduceMul, reduceCtorEq, e0, e1, e2, st6]
  refine R_out ⟨G5, _, P2, _, (hx4.trans (hx5.mono hx6)).trans (hxs.mono hx6'), (show MapAt _ _ _ _ _ _ _ _ _ _ _ from ⟨h5, hmid.alc⟩).ext hxs h6.1 h6.2 (by omega), hq6, ho5, hg2.done hok (by omega) hl2 hi2 hmid ?_ ?_⟩
  · exact (hg2.dty.mono (by simp)).trans (.write (by simp [hsp.2]))
  · have hnd := hg2.mid.own.nodup i o2 upF_same
    have hndd : o2.data.Nodup := by rw [Opn.own, List.nodup_append] at hnd; exact hnd.1
    have hpd : ∀ x ∈ o2.data, (c2.page x).length = 512 := fun x hx => hpl2 x (by simp [Opn.own, hx])
    have hw := flat_write (f := c2.page) hpd hptl hndd hsp.1
    have hpw : (c2.write n (patch (c2.page n) (size % 512) (List.replicate (512 - size % 512) 0))).page = fun x => if x = n then patch (c2.page n) (size % 512) (List.replicate (512 - size % 512) 0) else c2.page x := by
      funext x; rw [Csh.write_page]
    have hlen := flat_length hpd
    have hfp := flat_part hpd hsp.1
    rw [hpw, hw, <- hfp, patch_page (by rw [hlen, hl2]; omega) (by simp; omega), hfl2]
    rw [hpk]
    exact rszB_clear (by omega) (by unfold pagesN; omega) (by omega) (by omega) (by unfold pagesN; omega)
theorem resize_spec (h : MapAt G κ μ w m p lq came c P I) (hs : StoreAt G w s m) (hq : OpnAt w q o) (ho : G.own q = 6 /\ G.fix q = 0) (hm : FMid c P I F B i o) (hok : o.Ok) (hb : Holds c o b) (hsz : size <= 70656) :
    Calls Tryz.prog 45 #[.pointer (some ⟨s, 0, none⟩), .pointer (some ⟨q, 0, none⟩), .int .i64 size] w (RetF (fun _ w' => RszR G κ μ w m p lq came c P I F B i q o b size w')
      (fun w' => Stop (fun x => x = μ \/ x = 6) G κ μ w m p lq came I.length c (freeN P + needN o.size) (needN size) (2 + needN size) w')) := by
  have mono : ∀ {x y : Nat} {w'}, x <= y -> Stop (fun x => x = μ \/ x = 6) G κ μ w m p lq came I.length c (freeN P + needN o.size) (needN size) x w' -> Stop (fun x => x = μ \/ x = 6) G κ μ w m p lq came I.length c (freeN P + needN o.size) (needN size) y w' :=
    fun hxy ⟨G', c', L, h1, h2, h3, h4⟩ => ⟨G', c', L, h1, h2, h3, h4.mono (Nat.le_refl _) hxy⟩
  by_cases hgr : o.size <= size
  · exact RetF.mono (resize_grow h hs hq ho hm hok hb hsz hgr) (fun _ _ hh => hh) (fun _ hh => mono (by omega) hh)
  · exact RetF.mono (resize_cut h hs hq ho hm hok hb (by omega)) (fun _ _ hh => hh) (fun _ hh => mono (by omega) hh)
end
section
variable {c c' : Csh} {P I : List Bool} {F : Nat -> Option Opn} {B : Nat -> List UInt8} {i n : Nat} {o o' : Opn}
theorem FsOk.congr (h : FsOk c P I F B) (hN : c'.N = c.N) (hp : ∀ n, n < c.N -> c'.page n = c.page n) : FsOk c' P I F B := by
  have hm := h.alc.may
  unfold mayA at hm
  refine ⟨h.alc.congr hN fun n hn => hp n (by omega), h.own, h.ok, fun j oj hj => (h.recs j oj hj).keep ?_ fun x hx => hp x (h.lt hj hx).2.1⟩
  have := h.i_lt hj
  rw [hp _ (by omega)]
def IOld (c : Csh) (k : Nat) : Prop := ∃ P I F B, FsOk c.abort P I F B /\ I.length = k
def Near (c c' : Csh) : Prop := c'.N = c.N /\ c'.D = c.D /\ c'.size = c.size
theorem Near.refl (c : Csh) : Near c c := ⟨rfl, rfl, rfl⟩
theorem Near.trans {a b c : Csh} (h : Near a b) (h' : Near b c) : Near a c := ⟨h'.1.trans h.1, h'.2.1.trans h.2.1, h'.2.2.trans h.2.2⟩
theorem Dty.near {L : List Nat} (h : Dty L c c') : Near c c' := ⟨h.N, h.D, h.size⟩
theorem Near.abort (c : Csh) : Near c c.abort := ⟨rfl, rfl, rfl⟩
theorem Near.cap (h : Near c c') : c'.cap = c.cap := by simp only [Csh.cap, h.2.2]
theorem Near.apage (h : Near c c') (n : Nat) : c'.abort.page n = c.abort.page n := by simp only [Csh.page, Csh.abort, h.2.1, h.2.2]
theorem IOld.near {k : Nat} (h : IOld c k) (hn : Near c c') : IOld c' k := by
  obtain ⟨P, I, F, B, h1, h2⟩ := h
  exact ⟨P, I, F, B, h1.congr hn.1 fun n _ => hn.apage n, h2⟩
theorem IOld.abort {k : Nat} (h : IOld c k) : ∃ P I F B, FsOk c.abort P I F B /\ I.length = k /\ IOld c.abort k := by
  obtain ⟨P, I, F, B, h1, h2⟩ := h
  exact ⟨P, I, F, B, h1, h2, P, I, F, B, h1, h2⟩
theorem FsOk.commit (h : FsOk c P I F B) (hc : c.OkS) : FsOk c.commit P I F B /\ IOld c.commit I.length := by
  have h1 := h.congr (Csh.commit_N c) fun n hn => hc.cpage hn
  exact ⟨h1, P, I, F, B, h1, rfl⟩
theorem upB_self : upB B i (B i) = B := by
  funext j; unfold upB; split
  · rename_i h; rw [h]
  · rfl
theorem turnI_page {x : Nat} (h1 : x ≠ 1) : (c.turnI n).page x = c.page x := by rw [Csh.turnI, Csh.write_page, if_neg h1]
theorem turnI_dty : Dty [1] c (c.turnI n) := .write (by simp)
theorem FsOk.born (h : FsOk c P I F B) (hl : (c.page 1).length = 512) (hn : firstN I < I.length) (ho : o.own = []) (hi : o.i = firstN I) : FMid (c.turnI (firstN I)) P (I.set (firstN I) true) F B (firstN I) o := by
  have hf := firstN_at hn
  have h1 := h.alc.first1
  have hnone : ∀ oj, F (firstN I) ≠ some oj := fun oj hj => by
    have := (h.own.num _ oj hj).2.2
    rw [hf] at this; cases this
  have key : ∀ {j oj}, upF F (firstN I) (some o) j = some oj -> (j = firstN I /\ oj = o) \/ (j ≠ firstN I /\ F j = some oj) := fun {j oj} hj => by
    by_cases hji : j = firstN I
    · subst hji; rw [upF_same] at hj; cases hj; exact .inl ⟨rfl, rfl⟩
    · rw [upF_ne hji] at hj; exact .inr ⟨hji, hj⟩
  refine ⟨h.alc.flipI hl h1 hf, ⟨fun j oj hj => ?_, fun j h2 h3 => ?_, fun j oj x hj hx => ?_, fun j j' oj oj' x hj hj' hx hx' => ?_, fun j oj hj => ?_, fun x hx hPx => ?_⟩, fun j oj _ hj => h.ok j oj hj, fun j oj hji hj => ?_⟩
  · rcases key hj with ⟨rfl, rfl⟩ | ⟨hne, hj⟩
    · exact ⟨hi, h1, by rw [List.getElem?_set_self hn]⟩
    · have := h.own.num j oj hj
      exact ⟨this.1, this.2.1, by rw [List.getElem?_set_ne (Ne.symm hne)]; exact this.2.2⟩
  · by_cases hji : j = firstN I
    · subst hji; exact ⟨o, upF_same⟩
    · rw [List.getElem?_set_ne (Ne.symm hji)] at h3
      obtain ⟨oj, h4⟩ := h.own.used j h2 h3
      exact ⟨oj, by rw [upF_ne hji]; exact h4⟩
  · rcases key hj with ⟨rfl, rfl⟩ | ⟨hne, hj⟩
    · rw [ho] at hx; simp at hx
    · rw [List.length_set]; exact h.own.page j oj x hj hx
  · rcases key hj with ⟨rfl, rfl⟩ | ⟨hne, hj⟩
    · rw [ho] at hx; simp at hx
    · rcases key hj' with ⟨rfl, rfl⟩ | ⟨hne', hj'⟩
      · rw [ho] at hx'; simp at hx'
      · exact h.own.apart j j' oj oj' x hj hj' hx hx'
  · rcases key hj with ⟨rfl, rfl⟩ | ⟨hne, hj⟩
    · rw [ho]; exact List.nodup_nil
    · exact h.own.nodup j oj hj
  · rw [List.length_set] at hx
    obtain ⟨j, oj, h2, h3⟩ := h.own.all x hx hPx
    exact ⟨j, oj, by rw [upF_ne (fun hh => hnone oj (by rw [<- hh]; exact h2))]; exact h2, h3⟩
  · have h2 := h.i_lt hj
    refine (h.recs j oj hj).keep (by rw [turnI_page (by omega)]) fun x hx => turnI_page ?_
    have := h.lt hj hx; omega
theorem FMid.wipe (h : FMid c P I F B i o) (h0 : o.own = []) (hl : (c.page (3 + i / 8)).length = 512) (hl1 : (c.page 1).length = 512) : FsOk ((c.save { Opn.zero with i := i }).turnI i) P (I.set i false) (upF F i none) B := by
  obtain ⟨n1, n2, n3, n4, n5, n6, n7, n8⟩ := h.num
  have hI := (h.own.num i o upF_same).2.2
  have hsave : c.save { Opn.zero with i := i } = c.save1 { Opn.zero with i := i } := rfl
  have hrl := ({ Opn.zero with i := i } : Opn).recB_length
  have hsp : ∀ x, (c.save1 { Opn.zero with i := i }).page x = if x = 3 + i / 8 then patch (c.page (3 + i / 8)) (64 * (i % 8)) ({ Opn.zero with i := i } : Opn).recB else c.page x := fun x => by rw [Csh.save1, Csh.write_page]
  have key : ∀ {j oj}, upF F i none j = some oj -> j ≠ i /\ F j = some oj /\ upF F i (some o) j = some oj := fun {j oj} hj => by
    by_cases hji : j = i
    · subst hji; rw [upF_same] at hj; cases hj
    · rw [upF_ne hji] at hj; exact ⟨hji, hj, by rw [upF_ne hji]; exact hj⟩
  rw [hsave]
  have ha : Alc (c.save1 { Opn.zero with i := i }) P I := h.alc.write (by omega)
  refine ⟨ha.flipI (by rw [hsp, if_neg (by omega)]; exact hl1) n2 hI, ⟨fun j oj hj => ?_, fun j h2 h3 => ?_, fun j oj x hj hx => ?_, fun j j' oj oj' x hj hj' hx hx' => ?_, fun j oj hj => ?_, fun x hx hPx => ?_⟩, fun j oj hj => ?_, fun j oj hj => ?_⟩
  · obtain ⟨k1, k2, k3⟩ := key hj
    have := h.own.num j oj k3
    exact ⟨this.1, this.2.1, by rw [List.getElem?_set_ne (Ne.symm k1)]; exact this.2.2⟩
  · have hji : j ≠ i := fun hh => by
      subst hh; rw [List.getElem?_set_self n3] at h3; cases h3
    rw [List.getElem?_set_ne (Ne.symm hji)] at h3
    obtain ⟨oj, h4⟩ := h.own.used j h2 h3
    exact ⟨oj, by rw [upF_ne hji]; rw [upF_ne hji] at h4; exact h4⟩
  · obtain ⟨k1, k2, k3⟩ := key hj
    rw [List.length_set]; exact h.own.page j oj x k3 hx
  · obtain ⟨k1, k2, k3⟩ := key hj
    obtain ⟨k4, k5, k6⟩ := key hj'
    exact h.own.apart j j' oj oj' x k3 k6 hx hx'
  · exact h.own.nodup j oj (key hj).2.2
  · rw [List.length_set] at hx
    obtain ⟨j, oj, h2, h3⟩ := h.own.all x hx hPx
    have hji : j ≠ i := fun hh => by
      subst hh; rw [upF_same] at h2; cases h2; rw [h0] at h3; simp at h3
    exact ⟨j, oj, by rw [upF_ne hji]; rw [upF_ne hji] at h2; exact h2, h3⟩
  · obtain ⟨k1, k2, k3⟩ := key hj
    exact h.ok j oj k1 k2
  · obtain ⟨k1, k2, k3⟩ := key hj
    obtain ⟨r1, r2⟩ := h.rpage k1 k2
    refine (h.recs j oj k1 k2).keep ?_ fun x hx => ?_
    · rw [turnI_page (by omega), hsp]
      split
      · rename_i he
        have hne : oj.i % 8 ≠ i % 8 := fun hh => k1 (by rw [<- r1]; omega)
        rw [he]
        refine List.ext_getElem? fun x => ?_
        rw [List.getElem?_take, List.getElem?_take]
        split
        · rw [List.getElem?_drop, List.getElem?_drop, patch_out (by omega) (by omega)]
        · rfl
      · rfl
    · obtain ⟨h3, h4, h5⟩ := h.other k1 k2 hx
      rw [turnI_page (by omega), hsp, if_neg (by omega)]
end
section
variable {G G' : Gh} {κ μ s m p lq came : Nat} {w w' : World} {c : Csh} {P I : List Bool} {F : Nat -> Option Opn} {B : Nat -> List UInt8}
structure Ino (G : Gh) (κ μ : Nat) (w : World) (s m p lq came : Nat) (c : Csh) (P I : List Bool) (F : Nat -> Option Opn) (B : Nat -> List UInt8) : Prop where
  map : MapAt G κ μ w m p lq came c P I
  sto : StoreAt G w s m
  fs : FsOk c P I F B
  old : IOld c I.length
theorem Ino.ext {K : Nat -> Prop} (h : Ino G κ μ w s m p lq came c P I F B) (hx : Ext K G w G' w') (hk : ¬ K κ) (hm : ¬ K μ) (h0 : ¬ K 0) : Ino G' κ μ w' s m p lq came c P I F B :=
  ⟨h.map.ext hx hk hm h0, h.sto.ext hx h0, h.fs, h.old⟩
theorem Ino.grow (h : Ino G κ μ w s m p lq came c P I F B) (hg : Grow w w') : Ino G κ μ w' s m p lq came c P I F B := h.ext (K := fun _ => False) (.grow hg) id id id
theorem Ino.put {c' : Csh} {P' I' : List Bool} {F' : Nat -> Option Opn} {B' : Nat -> List UInt8} {K : Nat -> Prop} (h : Ino G κ μ w s m p lq came c P I F B) (hx : Ext K G w G' w') (h0 : ¬ K 0) (hm : MapAt G' κ μ w' m p lq came c' P' I') (hf : FsOk c' P' I' F' B') (hn : Near c c') (hi : I'.length = I.length) : Ino G' κ μ w' s m p lq came c' P' I' F' B' :=
  ⟨hm, h.sto.ext hx h0, hf, by rw [hi]; exact h.old.near hn⟩
def Back (G : Gh) (κ μ : Nat) (w : World) (s m p lq came k : Nat) (c : Csh) : Prop := ∃ c' P I F B, Ino G κ μ w s m p lq came c' P I F B /\ Near c c' /\ I.length = k
theorem Ino.back {c1 : Csh} (h : Ino G κ μ w s m p lq came c P I F B) {K : Nat -> Prop} (hx : Ext K G w G' w') (h0 : ¬ K 0) (hm : MapC G' κ μ w' m p lq came c1.abort I.length) (hn : Near c c1) : Back G' κ μ w' s m p lq came I.length c := by
  obtain ⟨P0, I0, F0, B0, h1, h2, h3⟩ := (h.old.near hn).abort
  exact ⟨c1.abort, P0, I0, F0, B0, ⟨⟨by rw [h2]; exact hm, h1.alc⟩, h.sto.ext hx h0, h1, by rw [h2]; exact h3⟩, hn.trans (.abort c1), h2⟩
def BoxAt (G : Gh) (w : World) (b o : Nat) (v : Value) : Prop := ∃ t, w.heap[b]? = some (.cells #[v] t (0, 0)) /\ G.own b = o /\ G.fix b = 0
variable {b o : Nat} {v u : Value}
theorem BoxAt.ext {K : Nat -> Prop} (h : BoxAt G w b o v) (hx : Ext K G w G' w') (hk : ¬ K o) : BoxAt G' w' b o v := by
  obtain ⟨t, h1, h2, h3⟩ := h
  have hlt := (Array.getElem?_eq_some_iff.1 h1).1
  exact ⟨t, hx.heap h1 (by rw [h2]; exact hk), by rw [hx.own b hlt]; exact h2, by rw [hx.fixe b hlt (by rw [h2]; exact hk)]; exact h3⟩
theorem BoxAt.grow (h : BoxAt G w b o v) (hg : Grow w w') : BoxAt G w' b o v := h.ext (K := fun _ => False) (.grow hg) id
theorem BoxAt.cell (h : BoxAt G w b o v) : w.cell? ⟨b, 0, none⟩ = some v := by obtain ⟨t, h1, h2, h3⟩ := h; rw [cell_block h1]; rfl
theorem BoxAt.lt (h : BoxAt G w b o v) : b < w.heap.size := by obtain ⟨t, h1, h2, h3⟩ := h; exact (Array.getElem?_eq_some_iff.1 h1).1
theorem BoxAt.keep {S : Nat -> Prop} (h : BoxAt G w b o v) (hk : Keep S w w') (hs : ¬ S b) : BoxAt G w' b o v := by obtain ⟨t, h1, h2, h3⟩ := h; exact ⟨t, hk.heap h1 hs, h2, h3⟩
theorem BoxAt.store (h : BoxAt G w b o v) (hu : isCell u = true) : ∃ w', stF w (.pointer (some ⟨b, 0, none⟩)) u = some (undef, w') /\ BoxAt G w' b o u /\ Ext (fun x => x = o) G w G w' /\ Keep (fun x => x = b) w w' := by
  obtain ⟨t, h1, h2, h3⟩ := h
  obtain ⟨w', hst, hb, hk⟩ := cell_store (i := 0) h1 (by simp) hu
  exact ⟨w', hst, ⟨t, hb, h2, h3⟩, .on0 hk h2 h3, hk⟩
theorem BoxAt.of {t : TypeId} (h : w.heap[b]? = some (.cells #[v] t (0, 0))) (ho : G.own b = o) (hf : G.fix b = 0) : BoxAt G w b o v := ⟨t, h, ho, hf⟩
end
section rules
variable {k : Kont} {e : Env} {w : World} {l : List GOp} {d : Option Nat}
theorem max_rule {x y : Operand} {ts : Array TypeId} {ty : TypeId} {a b : Int} (hx : ev e x = .int .i64 a) (hy : ev e y = .int .i64 b) (h : R (symOps Tryz.prog l k (updO e d (.int .i64 (if b > a then b else a))) w)) :
    R (symOps Tryz.prog (⟨d, .hard (H (.call { callee := .builtin .max, args := #[x, y], argTypes := ts }) ty), none⟩ :: l) k e w) :=
  hard_rule (run_builtin (vs := [.int .i64 a, .int .i64 b]) (by simp [hx, hy]) (fun cs => by simp only [builtin, run_max_int2, Sem.run_bind, Result.andThen_ok]; rfl)) h
end rules
theorem fill_z {n : Nat} {e : Env} {z : Value} {l : List (Nat × Nat × Operand)} : fillV e (Array.replicate n z) l = fillF (Array.replicate n z) (l.map fun p => (p.1, p.2.1, ev e p.2.2)) := fill_all _ _
def Opn.new (kd md i : Nat) : Opn := { kind := kd, mode := md, links := 1, size := 0, data := [], ind := 0, i := i }
theorem fill_new15 (kd md i : Nat) : fillF (Array.replicate 15 (.int .i64 0)) [(0, 1, .int .i64 kd), (1, 1, .int .i64 md), (2, 1, .int .i64 1)] = some ((Opn.new kd md i).cells.take 15).toArray := by kernel_rfl
theorem fill_new (kd md i : Nat) : fillF (Array.replicate 144 (.int .i64 0)) [(0, 15, .agg ((Opn.new kd md i).cells.take 15).toArray), (15, 1, .int .i64 i)] = some (Opn.new kd md i).cells.toArray := by kernel_rfl
theorem fill_gone (i : Nat) : fillF (Array.replicate 144 (.int .i64 0)) [(15, 1, .int .i64 i)] = some ({ Opn.zero with i := i } : Opn).cells.toArray := by kernel_rfl
theorem enterSet1 {Φ : Value -> World -> Prop} {Ψ : List PanicEntry -> World -> Prop} {w : World} (v0 v1 : Value) (h : symS 5 Tryz.prog F79 ⟨fun e w => Φ (oneOf []) w, fun _ _ _ => False, fun e w => Φ (oneOf []) w, Ψ⟩ (upd (upd env0 0 v0) 1 v1) w) : Calls Tryz.prog 79 #[v0, v1] w (Out Φ Ψ) := calls_sym (args := [v0, v1]) 5 [] Tryz.func79 (by kernel_rfl) (by kernel_rfl) (by decide) (by kernel_rfl) (by kernel_rfl) (by simp) F79_eq h
theorem enterRsz1 {Φ : Value -> World -> Prop} {Ψ : List PanicEntry -> World -> Prop} {w : World} (v0 v1 v2 : Value) (h : symS 9 Tryz.prog F78 ⟨fun e w => Φ (oneOf []) w, fun _ _ _ => False, fun e w => Φ (oneOf []) w, Ψ⟩ (upd (upd (upd env0 0 v0) 1 v1) 2 v2) w) : Calls Tryz.prog 78 #[v0, v1, v2] w (Out Φ Ψ) := calls_sym (args := [v0, v1, v2]) 9 [] Tryz.func78 (by kernel_rfl) (by kernel_rfl) (by decide) (by kernel_rfl) (by kernel_rfl) (by simp) F78_eq h
theorem enterDrop1 {Φ : Value -> World -> Prop} {Ψ : List PanicEntry -> World -> Prop} {w : World} (v0 v1 v2 : Value) (h : symS 18 Tryz.prog F44 ⟨fun e w => Φ (oneOf []) w, fun _ _ _ => False, fun e w => Φ (oneOf []) w, Ψ⟩ (upd (upd (upd env0 0 v0) 1 v1) 2 v2) w) : Calls Tryz.prog 44 #[v0, v1, v2] w (Out Φ Ψ) := calls_sym (args := [v0, v1, v2]) 18 [] Tryz.func44 (by kernel_rfl) (by kernel_rfl) (by decide) (by kernel_rfl) (by kernel_rfl) (by simp) F44_eq h
theorem enterMake1 {Φ : Value -> World -> Prop} {Ψ : List PanicEntry -> World -> Prop} {w : World} (v0 v1 v2 v3 : Value) (h : symS 26 Tryz.prog F67 ⟨fun e w => Φ (oneOf []) w, fun _ _ _ => False, fun e w => Φ (oneOf []) w, Ψ⟩ (upd (upd (upd (upd env0 0 v0) 1 v1) 2 v2) 3 v3) w) : Calls Tryz.prog 67 #[v0, v1, v2, v3] w (Out Φ Ψ) := calls_sym (args := [v0, v1, v2, v3]) 26 [] Tryz.func67 (by kernel_rfl) (by kernel_rfl) (by decide) (by kernel_rfl) (by kernel_rfl) (by simp) F67_eq h
section
variable {c : Csh} {P I : List Bool} {F : Nat -> Option Opn} {B : Nat -> List UInt8} {i : Nat} {o : Opn}
theorem FMid.num_lt (h : FMid c P I F B i o) (k : Nat) : o.num k < 1000000 /\ o.data.getD k 0 < 1000000 := by
  have hN := h.num
  have h1 : o.data.getD k 0 < 1000000 := by
    rw [List.getD_eq_getElem?_getD]
    by_cases hk : k < o.data.length
    · rw [List.getElem?_eq_getElem hk]
      have := (h.pg (n := o.data[k]) (by simp [Opn.own])).2.2.1
      simp only [Option.getD_some]; omega
    · rw [List.getElem?_eq_none (by omega)]; simp
  refine ⟨?_, h1⟩
  unfold Opn.num
  split
  · exact h1
  · by_cases hi : o.ind = 0
    · omega
    · have := (h.pg (n := o.ind) (by simp [Opn.own, hi])).2.2.1
      omega
end
section
variable {G : Gh} {κ μ m p lq came s q i a : Nat} {w : World} {c : Csh} {P I : List Bool} {F : Nat -> Option Opn} {B : Nat -> List UInt8} {o : Opn} {b : List UInt8} {size : Nat}
theorem fsave_spec (h : MapAt G κ μ w m p lq came c P I) (hs : StoreAt G w s m) (hm : FMid c P I F B i o) (hok : o.Ok) (hb : Holds c o b) :
    Calls Tryz.prog 46 #[.pointer (some ⟨s, 0, none⟩), .agg o.cells.toArray] w (RetF (fun _ w' => ∃ G', Ext (fun x => x = μ) G w G' w' /\ MapAt G' κ μ w' m p lq came (c.save o) P I /\ FsOk (c.save o) P I (upF F i (some o)) (upB B i b))
      (fun w' => ∃ G' c1, Ext (fun x => x = μ) G w G' w' /\ MapC G' κ μ w' m p lq came c1 I.length /\ Dty [3 + o.i / 8, o.ind] c c1 /\ c.cap < c.N /\ c.cap < c.dirty.length + 2)) := by
  obtain ⟨n1, n2, n3, n4, n5, n6, n7, n8⟩ := hm.num
  have k1 := hok.mode
  have k2 := hok.links
  have k3 := hok.size
  refine RetF.mono (save_spec h.1 hs (o := o) (by omega) n5 n6 (fun hi => (hm.pg (n := o.ind) (by simp [Opn.own, hi])).2.2.1) ⟨by omega, by omega, by omega, hm.num_lt⟩) ?_ (fun _ hh => hh)
  rintro _ w' ⟨G', hx, h'⟩
  have hf := hm.save hok (h.1.cache.oks.plen (by omega)) hb.flat hb.len
  exact ⟨G', hx, ⟨h', hf.alc⟩, hf⟩
def Did (K : Nat -> Prop) (G : Gh) (κ μ : Nat) (w : World) (m p lq came : Nat) (c : Csh) (P I : List Bool) (F : Nat -> Option Opn) (B : Nat -> List UInt8) (i : Nat) (Q : Csh -> List Bool -> Opn -> List UInt8 -> Prop) (w' : World) : Prop :=
  ∃ G' c' P' o' b', Ext K G w G' w' /\ MapAt G' κ μ w' m p lq came c' P' I /\ FsOk c' P' I (upF F i (some o')) (upB B i b') /\ Q c' P' o' b'
theorem stop_of {K : Nat -> Prop} {G' : Gh} {w' : World} {c1 : Csh} {L : List Nat} {k free want most : Nat} (hx : Ext K G w G' w') (hm : MapC G' κ μ w' m p lq came c1 k) (hd : Dty L c c1) (h : NoRoom c free want most) : Stop K G κ μ w m p lq came k c free want most w' := ⟨G', c1, L, hx, hm, hd, h⟩
def StopZ (K : Nat -> Prop) (G : Gh) (κ μ : Nat) (w : World) (m p lq came k : Nat) (c : Csh) (free want most : Nat) (Z : Gh -> World -> Prop) (w' : World) : Prop :=
  ∃ G' c' L, Ext K G w G' w' /\ MapC G' κ μ w' m p lq came c' k /\ Dty L c c' /\ NoRoom c free want most /\ Z G' w'
theorem Stop.z {K K' : Nat -> Prop} {w' : World} {k free want most : Nat} (h : Stop K G κ μ w m p lq came k c free want most w') (hk : ∀ x, K x -> K' x) : StopZ K' G κ μ w m p lq came k c free want most (fun _ _ => True) w' := by
  obtain ⟨G', c', L, h1, h2, h3, h4⟩ := h
  exact ⟨G', c', L, h1.mono hk, h2, h3, h4, trivial⟩
set_option maxRecDepth 20000 in
theorem set1_spec (h : MapAt G κ μ w m p lq came c P I) (hs : StoreAt G w s m) (ha : BoxAt G w a 0 (.pointer (some ⟨s, 0, none⟩))) (hq : OpnAt w q o) (hm : FMid c P I F B i o) (hok : o.Ok) (hb : Holds c o b) :
    Calls Tryz.prog 79 #[.pointer (some ⟨a, 0, none⟩), .pointer (some ⟨q, 0, none⟩)] w (RetF (fun _ w' => Did (fun x => x = μ \/ x = 6) G κ μ w m p lq came c P I F B i (fun c' P' o' b' => P' = P /\ o' = o /\ b' = b /\ Dty [3 + o.i / 8, o.ind] c c') w')
      (fun w' => Stop (fun x => x = μ \/ x = 6) G κ μ w m p lq came I.length c 0 0 2 w')) := by
  have hx6 : ∀ x, x = μ -> x = μ \/ x = 6 := fun x hh => .inl hh
  apply enterSet1
  apply R_in
  simp (maxSteps := 999999) (disch := omega) only [↓sy1, sZ, readOK, Nat.reduceEqDiff, ↓reduceIte, oneOf, Nat.reduceAdd, Nat.reduceMul, reduceCtorEq, F79, ha.cell, hq.load]
  refine callF (fsave_spec h hs hm hok hb) ?_ ?_
  · rintro w1 ⟨G1, c1, hx1, h1, hd, hc1, hc2⟩
    exact ⟨rfl, stop_of (hx1.mono hx6) h1 hd (.inr ⟨hc1, hc2⟩)⟩
  rintro _ w1 ⟨G1, hx1, h1, hf⟩
  simp (maxSteps := 999999) (disch := omega) only [↓sy1, sZ, readOK, Nat.reduceEqDiff, ↓reduceIte, oneOf, Nat.reduceAdd, Nat.reduceMul, reduceCtorEq]
  exact R_out ⟨G1, _, P, o, b, hx1.mono hx6, h1, hf, rfl, rfl, rfl, c.save_dty o⟩
set_option maxRecDepth 20000 in
theorem resize1_spec {f : Nat} (h : MapAt G κ μ w m p lq came c P I) (hs : StoreAt G w s m) (ha : BoxAt G w a 0 (.pointer (some ⟨s, 0, none⟩))) (hf : BoxAt G w f 0 (.int .i64 size)) (hq : OpnAt w q o) (hoq : G.own q = 6 /\ G.fix q = 0) (hm : FMid c P I F B i o) (hok : o.Ok) (hb : Holds c o b) (hsz : size <= 70656) :
    Calls Tryz.prog 78 #[.pointer (some ⟨a, 0, none⟩), .pointer (some ⟨q, 0, none⟩), .pointer (some ⟨f, 0, none⟩)] w (RetF (fun _ w' => Did (fun x => x = μ \/ x = 6) G κ μ w m p lq came c P I F B i (fun c' P' o' b' => b' = rszB b size /\ o'.size = size /\ o'.kind = o.kind /\ o'.mode = o.mode /\ o'.links = o.links /\ freeN P' + needN size = freeN P + needN o.size /\ Dty (2 :: (3 + i / 8) :: o'.own) c c') w')
      (fun w' => Stop (fun x => x = μ \/ x = 6) G κ μ w m p lq came I.length c (freeN P + needN o.size) (needN size) (3 + needN size) w')) := by
  obtain ⟨hne1, hne2, hne3⟩ := h.1.cache.ne
  have hx6 : ∀ x, x = μ -> x = μ \/ x = 6 := fun x hh => .inl hh
  have h06 : ¬((0 : Nat) = μ \/ (0 : Nat) = 6) := by omega
  apply enterRsz1
  apply R_in
  simp (maxSteps := 999999) (disch := omega) only [↓sy1, sZ, readOK, Nat.reduceEqDiff, ↓reduceIte, oneOf, Nat.reduceAdd, Nat.reduceMul, reduceCtorEq, F78, ha.cell, hf.cell]
  refine callF (resize_spec h hs hq hoq hm hok hb hsz) ?_ ?_
  · rintro w1 ⟨G1, c1, L, hx1, h1, hd, hn⟩
    exact ⟨rfl, stop_of hx1 h1 hd (hn.mono (Nat.le_refl _) (by omega))⟩
  rintro _ w1 ⟨G1, c1, P1, o1, hx1, h1, hq1, hoq1, hr⟩
  have ha1 := ha.ext hx1 h06
  have hnum := hr.mid.num
  have hlen := hr.ok.own_len
  rw [hr.sz] at hlen
  simp (maxSteps := 999999) (disch := omega) only [↓sy1, sZ, readOK, Nat.reduceEqDiff, ↓reduceIte, oneOf, Nat.reduceAdd, Nat.reduceMul, reduceCtorEq, ha1.cell, hq1.load]
  refine callF (fsave_spec h1 (hs.ext hx1 h06) hr.mid hr.ok hr.holds) ?_ ?_
  · rintro w2 ⟨G2, c2, hx2, h2, hd, hc1, hc2⟩
    have hl := hr.dty.len
    have hN := hr.dty.N
    have hC := hr.dty.cap
    rw [List.length_cons] at hl
    exact ⟨rfl, stop_of (hx1.trans (hx2.mono hx6)) h2 (hr.dty.app hd) (.inr ⟨by omega, by omega⟩)⟩
  rintro _ w2 ⟨G2, hx2, h2, hf2⟩
  simp (maxSteps := 999999) (disch := omega) only [↓sy1, sZ, readOK, Nat.reduceEqDiff, ↓reduceIte, oneOf, Nat.reduceAdd, Nat.reduceMul, reduceCtorEq]
  refine R_out ⟨G2, _, P1, o1, _, hx1.trans (hx2.mono hx6), h2, hf2, rfl, hr.sz, hr.kind, hr.mode, hr.links, hr.free, ?_⟩
  rw [<- hnum.1]
  by_cases hi : o1.ind = 0
  · exact (hr.dty.mono (fun x hx => by rcases List.mem_cons.1 hx with rfl | hx <;> simp [*])).trans ((c1.save_dty0 hi).mono (by simp))
  · exact (hr.dty.mono (fun x hx => by rcases List.mem_cons.1 hx with rfl | hx <;> simp [*])).trans ((c1.save_dty o1).mono (fun x hx => by
      simp at hx
      rcases hx with rfl | rfl
      · simp
      · simp [Opn.own, hi]))
def GiveIR (G : Gh) (κ μ : Nat) (w : World) (m p lq came : Nat) (c : Csh) (P I : List Bool) (n : Nat) (v : Value) : Prop :=
  (v = .int .i64 7 /\ c.fits [1] = false /\ MapAt G κ μ w m p lq came c P I) \/ (v = .int .i64 0 /\ MapAt G κ μ w m p lq came (c.turnI n) P (I.set n false))
theorem giveinode_spec (h : MapAt G κ μ w m p lq came c P I) {n : Nat} (hn : 1 <= n) (hI : I[n]? = some true) :
    Calls Tryz.prog 47 #[.pointer (some ⟨m, 0, none⟩), .int .i64 n] w (Ret fun v w' => ∃ G', Ext (fun x => x = μ) G w G' w' /\ GiveIR G' κ μ w' m p lq came c P I n v) := by
  obtain ⟨f1, f2, f3, f4, f5, f6, f7, f8⟩ := h.facts
  have hlt := (List.getElem?_eq_some_iff.1 hI).1
  apply enter47
  apply R_in
  simp (maxSteps := 999999) (disch := omega) only [↓sy1, sZ, readOK, Nat.reduceEqDiff, ↓reduceIte, oneOf, Nat.reduceAdd, Nat.reduceMul, reduceCtorEq, F47]
  refine call0 (give_spec h.1 (pg := 1) (.inl rfl) (L := I) h.2.i f1 (n := n) (least := 1)) ?_
  rintro _ w2 ⟨G2, hx2, rfl, h2⟩
  have hg0 : giveC I (n : Int) ((1 : Nat) : Int) = 0 := by
    unfold giveC
    rw [if_neg (by omega), Int.toNat_natCast, if_pos hI]
  rw [hg0, show (((1 : Nat) : Int)) = 1 from rfl, Int.toNat_natCast] at h2
  rw [hg0, show (((1 : Nat) : Int)) = 1 from rfl]
  cases hf : c.fits [(1 : Int)] with
  | false =>
    rw [hf, if_neg (by simp)] at h2
    rw [if_pos ⟨rfl, rfl⟩]
    simp (maxSteps := 999999) (disch := omega) only [↓sy1, sZ, readOK, Nat.reduceEqDiff, ↓reduceIte, oneOf, Nat.reduceAdd, Nat.reduceMul, reduceCtorEq]
    exact R_out ⟨G2, hx2, .inl ⟨rfl, hf, h2, h.2⟩⟩
  | true =>
    rw [hf, if_pos ⟨rfl, rfl⟩] at h2
    rw [if_neg (by simp)]
    simp (maxSteps := 999999) (disch := omega) only [↓sy1, sZ, readOK, Nat.reduceEqDiff, ↓reduceIte, oneOf, Nat.reduceAdd, Nat.reduceMul, reduceCtorEq]
    refine R_out ⟨G2, hx2, .inr ⟨rfl, ?_, ?_⟩⟩
    · rw [List.length_set]; exact h2
    · exact h.2.flipI f7 hn hI
def Gone (G : Gh) (κ μ : Nat) (w : World) (m p lq came : Nat) (c : Csh) (P I : List Bool) (F : Nat -> Option Opn) (B : Nat -> List UInt8) (i : Nat) (o : Opn) (w' : World) : Prop :=
  ∃ G' c' P', Ext (fun x => x = μ \/ x = 6) G w G' w' /\ MapAt G' κ μ w' m p lq came c' P' (I.set i false) /\ FsOk c' P' (I.set i false) (upF F i none) B /\ freeN P' = freeN P + needN o.size /\ ∃ L, L.length <= 3 /\ Dty L c c'
set_option maxRecDepth 20000 in
set_option maxHeartbeats 1000000 in
theorem drop1_spec {f : Nat} (h : MapAt G κ μ w m p lq came c P I) (hs : StoreAt G w s m) (ha : BoxAt G w a 0 (.pointer (some ⟨s, 0, none⟩))) (hf : BoxAt G w f 0 (.int .i64 i)) (hq : OpnAt w q o) (hoq : G.own q = 6 /\ G.fix q = 0) (hm : FMid c P I F B i o) (hok : o.Ok) (hb : Holds c o b) :
    Calls Tryz.prog 44 #[.pointer (some ⟨a, 0, none⟩), .pointer (some ⟨q, 0, none⟩), .pointer (some ⟨f, 0, none⟩)] w (RetF (fun _ w' => Gone G κ μ w m p lq came c P I F B i o w')
      (fun w' => Stop (fun x => x = μ \/ x = 6) G κ μ w m p lq came I.length c 0 0 3 w')) := by
  obtain ⟨hne1, hne2, hne3⟩ := h.1.cache.ne
  have hx6 : ∀ x, x = μ -> x = μ \/ x = 6 := fun x hh => .inl hh
  have h06 : ¬((0 : Nat) = μ \/ (0 : Nat) = 6) := by omega
  have h0μ : ¬((0 : Nat) = μ) := by omega
  apply enterDrop1
  apply R_in
  simp (maxSteps := 999999) (disch := omega) only [↓sy1, sZ, readOK, Nat.reduceEqDiff, ↓reduceIte, oneOf, Nat.reduceAdd, Nat.reduceMul, reduceCtorEq, F44, ha.cell, hf.cell]
  refine callF (resize_spec (size := 0) h hs hq hoq hm hok hb (by omega)) ?_ ?_
  · rintro w1 ⟨G1, c1, L, hx1, h1, hd, hn⟩
    refine ⟨rfl, stop_of hx1 h1 hd ?_⟩
    rcases hn with hn | ⟨hn1, hn2⟩
    · have : needN 0 = 0 := rfl
      omega
    · have : needN 0 = 0 := rfl
      exact .inr ⟨hn1, by omega⟩
  rintro _ w1 ⟨G1, c1, P1, o1, hx1, h1, hq1, hoq1, hr⟩
  have ha1 := ha.ext hx1 h06
  have hf1 := hf.ext hx1 h06
  have hs1 := hs.ext hx1 h06
  obtain ⟨n1, n2, n3, n4, n5, n6, n7, n8⟩ := hr.mid.num
  have hlen := hr.ok.own_len
  rw [hr.sz] at hlen
  have hown : o1.own = [] := List.eq_nil_of_length_eq_zero hlen
  have hfree := hr.free
  rw [show needN 0 = 0 from rfl] at hfree
  have hdt := hr.dty
  rw [hown] at hdt
  have hzi : ({ Opn.zero with i := i } : Opn).i = i := rfl
  simp (maxSteps := 999999) (disch := omega) only [↓sy1, sZ, readOK, Nat.reduceEqDiff, ↓reduceIte, oneOf, Nat.reduceAdd, Nat.reduceMul, reduceCtorEq, ha1.cell, hf1.cell, fill_z, fill_gone]
  refine callF (save_spec h1.1 hs1 (o := { Opn.zero with i := i }) n3 n5 n6 (fun hh => absurd rfl hh) ⟨by show (0 : Nat) < _; omega, by show (0 : Nat) < _; omega, by show (0 : Nat) < _; omega, fun j => by constructor <;> simp [Opn.num, Opn.zero]⟩) ?_ ?_
  · rintro w2 ⟨G2, c2, hx2, h2, hd, hc1, hc2⟩
    have hl := hdt.len
    have hN := hdt.N
    have hC := hdt.cap
    simp only [List.length_cons, List.length_nil] at hl
    exact ⟨rfl, stop_of (hx1.trans (hx2.mono hx6)) h2 (hdt.app hd) (.inr ⟨by omega, by omega⟩)⟩
  rintro _ w2 ⟨G2, hx2, h2⟩
  have ha2 := ha1.ext hx2 h0μ
  have hf2 := hf1.ext hx2 h0μ
  have hs2 := hs1.ext hx2 h0μ
  have hd2 : Dty [2, 3 + i / 8] c (c1.save { Opn.zero with i := i }) := (hdt.mono (by simp)).trans ((c1.save_dty0 (o := { Opn.zero with i := i }) rfl).mono (by simp [hzi]))
  have hx02 := hx1.trans (hx2.mono hx6)
  have halc : Alc (c1.save { Opn.zero with i := i }) P1 I := h1.2.write (by omega)
  have hmi : I[i]? = some true := (hr.mid.own.num i o1 upF_same).2.2
  simp (maxSteps := 999999) (disch := omega) only [↓sy1, sZ, readOK, Nat.reduceEqDiff, ↓reduceIte, oneOf, Nat.reduceAdd, Nat.reduceMul, reduceCtorEq]
  refine draw44_0 (fun _ => False) ?_
  have hgd : Grow w2 w2.drew := (Keep.refl _ _).drew
  have hx3 := hx02.trans (.grow hgd)
  have h3 : MapAt G2 κ μ w2.drew m p lq came _ P1 I := ⟨h2.grow hgd, halc⟩
  have ha3 := ha2.grow hgd
  have hf3 := hf2.grow hgd
  have hs3 := hs2.grow hgd
  generalize w2.drew = w3 at hgd hx3 h3 ha3 hf3 hs3 |-
  simp (maxSteps := 999999) (disch := omega) only [↓sy1, sZ, readOK, Nat.reduceEqDiff, ↓reduceIte, oneOf, Nat.reduceAdd, Nat.reduceMul, reduceCtorEq, PL44_0, ha3.cell, hf3.cell, hs3.cell]
  refine call0 (giveinode_spec h3 n2 hmi) ?_
  rintro _ w4 ⟨G4, hx4, hR⟩
  rcases hR with ⟨rfl, hno, h4⟩ | ⟨rfl, h4⟩
  · simp (maxSteps := 999999) (disch := omega) only [↓sy1, sZ, readOK, Nat.reduceEqDiff, ↓reduceIte, oneOf, Nat.reduceAdd, Nat.reduceMul, reduceCtorEq, Int.reduceEq, decide_false]
    refine panic_rule (by simp only [upd_at, Nat.reduceEqDiff, reduceIte, ev_tmp, ev_const, List.map_cons, List.map_nil]; rfl) ?_
    refine ⟨rfl, stop_of (hx3.trans (hx4.mono hx6)) h4.1 hd2 (.inr ⟨hd2.nofitN (l := [1]) (fun x hx => ?_) hno, ?_⟩)⟩
    · have := hdt.N
      simp at hx; subst hx; omega
    · have := (hd2.mono (L' := [1, 2, 3 + i / 8]) (by simp)).nofit (l := [1]) (fun x hx => by simp at hx; subst hx; exact ⟨1, by simp, rfl⟩) hno
      simpa using this
  · simp (maxSteps := 999999) (disch := omega) only [↓sy1, sZ, readOK, Nat.reduceEqDiff, ↓reduceIte, oneOf, Nat.reduceAdd, Nat.reduceMul, reduceCtorEq, decide_true, not_true_eq_false]
    refine R_out ⟨G4, _, P1, hx3.trans (hx4.mono hx6), h4, hr.mid.wipe hown (h1.1.cache.oks.plen (by omega)) h1.facts.2.2.2.2.2.2.1, hfree, [1, 2, 3 + i / 8], by simp, ?_⟩
    exact (hd2.mono (by simp)).trans (turnI_dty.mono (by simp))
def Born (G : Gh) (κ μ : Nat) (w : World) (m p lq came : Nat) (c : Csh) (P I : List Bool) (F : Nat -> Option Opn) (B : Nat -> List UInt8) (kd md f : Nat) (w' : World) : Prop :=
  ∃ G' c', Ext (fun x => x = μ \/ x = 6) G w G' w' /\ MapAt G' κ μ w' m p lq came c' P (I.set (firstN I) true) /\ FsOk c' P (I.set (firstN I) true) (upF F (firstN I) (some (Opn.new kd md (firstN I)))) (upB B (firstN I) []) /\ firstN I < I.length /\ BoxAt G' w' f 6 (.int .i64 (firstN I)) /\ Dty [1, 3 + firstN I / 8] c c'
set_option maxRecDepth 20000 in
set_option maxHeartbeats 1000000 in
theorem make1_spec {f k1 k2 kd md : Nat} {v : Value} (h : MapAt G κ μ w m p lq came c P I) (hs : StoreAt G w s m) (hfs : FsOk c P I F B) (ha : BoxAt G w a 0 (.pointer (some ⟨s, 0, none⟩))) (hf : BoxAt G w f 6 v) (hk1 : BoxAt G w k1 0 (.int .i64 kd)) (hk2 : BoxAt G w k2 0 (.int .i64 md)) (hkd : 1 <= kd /\ kd <= 3) (hmd : md <= 4095) :
    Calls Tryz.prog 67 #[.pointer (some ⟨a, 0, none⟩), .pointer (some ⟨f, 0, none⟩), .pointer (some ⟨k1, 0, none⟩), .pointer (some ⟨k2, 0, none⟩)] w (RetF (fun _ w' => Born G κ μ w m p lq came c P I F B kd md f w')
      (fun w' => StopZ (fun x => x = μ \/ x = 6) G κ μ w m p lq came I.length c (freeN I) 1 3 (fun G w => ∃ v, BoxAt G w f 6 v) w')) := by
  obtain ⟨hne1, hne2, hne3⟩ := h.1.cache.ne
  have h6 := h.1.ne
  have hx6 : ∀ x, x = μ -> x = μ \/ x = 6 := fun x hh => .inl hh
  have hx6' : ∀ x, x = 6 -> x = μ \/ x = 6 := fun x hh => .inr hh
  have h0μ : ¬((0 : Nat) = μ) := by omega
  have hnm : 6 ≠ μ := fun hh => h6.2 hh.symm
  apply enterMake1
  apply R_in
  simp (maxSteps := 999999) (disch := omega) only [↓sy1, sZ, readOK, Nat.reduceEqDiff, ↓reduceIte, oneOf, Nat.reduceAdd, Nat.reduceMul, reduceCtorEq, F67, ha.cell, hs.cell]
  refine call0 (inode_spec h) ?_
  rintro _ w1 ⟨G1, hx1, hR⟩
  rcases hR with ⟨rfl, hno, h1⟩ | ⟨rfl, hn, _, h1⟩
  · simp (maxSteps := 999999) (disch := omega) only [↓sy1, sZ, readOK, Nat.reduceEqDiff, ↓reduceIte, oneOf, Nat.reduceAdd, Nat.reduceMul, reduceCtorEq, Int.reduceEq, decide_false]
    refine panic_rule (by simp only [upd_at, Nat.reduceEqDiff, reduceIte, ev_tmp, ev_const, List.map_cons, List.map_nil]; rfl) ?_
    by_cases hlt : firstN I < I.length
    · have hno := hno hlt
      have h3 := h.1.n3
      refine ⟨rfl, G1, c, [1], hx1.mono hx6, h1.1, .refl [1] c, .inr ⟨(Dty.refl [1] c).nofitN (l := [1]) (fun x hx => by simp at hx; subst hx; omega) hno, ?_⟩, v, hf.ext hx1 hnm⟩
      have := (Dty.refl [1] c).nofit (l := [1]) (fun x hx => by simp at hx; subst hx; exact ⟨1, by simp, rfl⟩) hno
      simp at this; omega
    · refine ⟨rfl, G1, c, [1], hx1.mono hx6, h1.1, .refl [1] c, .inl ?_, v, hf.ext hx1 hnm⟩
      rw [freeN_zero (l := I) (by have := firstN_le I; omega)]; omega
  have ha1 := ha.ext hx1 h0μ
  have hs1 := hs.ext hx1 h0μ
  have hf1 := hf.ext hx1 hnm
  have hk11 := hk1.ext hx1 h0μ
  have hk21 := hk2.ext hx1 h0μ
  have hmid := hfs.born (o := Opn.new kd md (firstN I)) h.facts.2.2.2.2.2.2.1 hn rfl rfl
  have hok : (Opn.new kd md (firstN I)).Ok := ⟨hkd, hmd, by show 1 <= 65535; omega, by show 0 <= 70656; omega, by simp [Opn.new, pagesN], by simp [Opn.new]⟩
  obtain ⟨w2, st2, hf2, hx2, _⟩ := hf1.store (u := .int .i64 (firstN I : Nat)) rfl
  have h2 := h1.ext hx2 h6.1 h6.2 (by omega)
  have hs2 := hs1.ext hx2 (by omega)
  have ha2 := ha1.ext hx2 (by omega)
  have hk12 := hk11.ext hx2 (by omega)
  have hk22 := hk21.ext hx2 (by omega)
  simp (maxSteps := 999999) (disch := omega) only [↓sy1, sZ, readOK, Nat.reduceEqDiff, ↓reduceIte, oneOf, Nat.reduceAdd, Nat.reduceMul, reduceCtorEq, decide_true, not_true_eq_false, st2, ha2.cell, hk12.cell, hk22.cell, hf2.cell, fill_z, fill_new15 kd md (firstN I), fill_new]
  refine callF (fsave_spec (b := []) h2 hs2 hmid hok ⟨by simp [Opn.new], by simp [Opn.new]⟩) ?_ ?_
  · rintro w3 ⟨G3, c3, hx3, h3, hd, hc1, hc2⟩
    rw [List.length_set] at h3
    have hdt : Dty [1] c (c.turnI (firstN I)) := turnI_dty
    have hl := hdt.len
    have hN := hdt.N
    have hC := hdt.cap
    simp only [List.length_cons, List.length_nil] at hl
    exact ⟨rfl, G3, c3, _, (hx1.mono hx6).trans ((hx2.mono hx6').trans (hx3.mono hx6)), h3, hdt.app hd, .inr ⟨by omega, by omega⟩, _, hf2.ext hx3 hnm⟩
  rintro _ w3 ⟨G3, hx3, h3, hf3⟩
  simp (maxSteps := 999999) (disch := omega) only [↓sy1, sZ, readOK, Nat.reduceEqDiff, ↓reduceIte, oneOf, Nat.reduceAdd, Nat.reduceMul, reduceCtorEq]
  refine R_out ⟨G3, _, (hx1.mono hx6).trans ((hx2.mono hx6').trans (hx3.mono hx6)), h3, hf3, hn, hf2.ext hx3 hnm, ?_⟩
  exact (turnI_dty.mono (by simp)).trans ((Csh.save_dty0 (c.turnI (firstN I)) (o := Opn.new kd md (firstN I)) rfl).mono (by simp [Opn.new]))
end
theorem patch_cont {l x y : List UInt8} {a : Nat} (h : a + x.length + y.length <= l.length) : patch (patch l a x) (a + x.length) y = patch l a (x ++ y) := by
  have h1 : (l.take a).length = a := by rw [List.length_take]; omega
  have h2 : (l.take a ++ x).length = a + x.length := by rw [List.length_append, h1]
  unfold patch
  rw [List.take_left' h2, List.length_append, <- List.drop_drop (i := y.length) (j := a + x.length), List.drop_left' h2, List.drop_drop, List.append_assoc (l.take a) x y]
  simp [Nat.add_assoc]
theorem patch_left {l z x : List UInt8} {a : Nat} (h : a + x.length <= l.length) : patch (l ++ z) a x = patch l a x ++ z := by
  unfold patch
  rw [List.take_append_of_le_length (by omega), List.drop_append_of_le_length (by omega)]
  simp [List.append_assoc]
theorem take_chunk (d : List UInt8) (j n : Nat) : d.take j ++ (d.drop j).take n = d.take (j + ((d.drop j).take n).length) := by
  rw [<- List.take_add, List.length_take, List.length_drop]
  by_cases h : n <= d.length - j
  · rw [Nat.min_eq_left h]
  · rw [Nat.min_eq_right (by omega), List.take_of_length_le (by omega), List.take_of_length_le (by omega)]
def wrB (b : List UInt8) (at_ : Nat) (d : List UInt8) : List UInt8 := patch (rszB b (max b.length (at_ + d.length))) at_ d
theorem wrB_length (b : List UInt8) (at_ : Nat) (d : List UInt8) : (wrB b at_ d).length = max b.length (at_ + d.length) := by
  rw [wrB, patch_length (by rw [rszB_length]; omega), rszB_length]
def RowO (K : Nat -> Prop) (G : Gh) (w : World) (v : Value) (l : List UInt8) : Prop := HasB w v l /\ ∀ b, v.ownBlock = some b -> b < w.heap.size /\ ¬ K (G.own b)
section
variable {K K' : Nat -> Prop} {G G' : Gh} {w w' : World} {v : Value} {l : List UInt8}
theorem RowO.ext (h : RowO K G w v l) (hx : Ext K' G w G' w') (hk : ∀ x, K' x -> K x) : RowO K G' w' v l :=
  ⟨h.1.keep hx.keep (fun b hb _ hh => (h.2 b hb).2 (hk _ hh)), fun b hb => ⟨Nat.lt_of_lt_of_le (h.2 b hb).1 hx.size, by rw [hx.own b (h.2 b hb).1]; exact (h.2 b hb).2⟩⟩
theorem RowO.slcFrom (h : RowO K G w v l) {m : Nat} (hm : m <= l.length) : ∃ v', slcF 1 v (some (.int .i64 m)) none none = some v' /\ RowO K G w v' (l.drop m) := by
  obtain ⟨h1, h2⟩ := h
  have hd : bs (l.drop m) = (bs l).drop m := by simp [bs, List.map_drop]
  obtain ⟨v', h3, h4⟩ := Has.slcFrom h1 (m := m) (by rw [bs_length]; exact hm)
  refine ⟨v', h3, by show Has 1 w v' (bs (l.drop m)); rw [hd]; exact h4, fun b hb => h2 b ?_⟩
  rcases h1 with ⟨b0, o0, n0, c0, rfl, _, _, _⟩ | ⟨_, rfl⟩
  · simp only [slcF, slcV, bndV, Option.isSome_none, Bool.false_eq_true, if_false] at h3
    split at h3
    · cases h3
    · cases h3
      rw [<- hb]
      split <;> first | rfl | (simp [add_lit]; rfl)
  · simp only [slcF, slcV, bndV, Option.isSome_none, Bool.false_eq_true, if_false] at h3
    split at h3
    · cases h3
    · cases h3
      rw [<- hb]
      split <;> first | rfl | (simp [add_lit]; rfl)
theorem Has.slice {xs : List Value} (h : Has 1 w v xs) : ∃ a c, v = .slice a xs.length c := by
  rcases h with ⟨b0, o0, n0, c0, rfl, h1, _, _⟩ | ⟨rfl, rfl⟩
  · exact ⟨_, c0, by rw [h1, Nat.mul_one]⟩
  · exact ⟨none, 0, rfl⟩
end
section rules
variable {k : Kont} {e : Env} {w : World} {l : List GOp} {d : Option Nat}
theorem copyB_rule {x y : Operand} {ty : TypeId} {g o n c : Nat} {ls b : List UInt8} (hx : ev e x = .slice (some ⟨g, o, none⟩) n c) (hr : ByteRow w g ls) (ho : o + n <= ls.length) (hy : HasB w (ev e y) b) (hb : b ≠ [])
    (h : ∀ w', Keep (fun b => b = g) w w' -> ByteRow w' g (patch ls o (b.take n)) -> R (symOps Tryz.prog l k (updO e d (.int .i64 ((b.take n).length : Nat))) w')) :
    R (symOps Tryz.prog (⟨d, .hard (H (.call { callee := .builtin .copy, args := #[x, y], argTypes := #[74, 74] }) ty), none⟩ :: l) k e w) := by
  obtain ⟨cur, h1, h2, h3⟩ := hr
  rcases hy with ⟨b0, o0, n0, c0, hyv, hn0, hc0, hcell⟩ | ⟨he, _⟩
  rotate_left
  · exact absurd (by simpa [bs] using he) hb
  rw [Nat.mul_one, bs_length] at hn0
  have hlen : (bs (b.take n)).length = Nat.min n0 n := by
    rw [bs_length, List.length_take, <- hn0, Nat.min_comm]
  have hsub : bs (b.take n) = (bs b).take n := by simp [bs, List.map_take]
  obtain ⟨i, hi, hz, hsz, hby⟩ := elemB.hi
  have hle : (b.take n).length <= n := by rw [List.length_take]; omega
  have hrun := run_copy_row Tryz.prog w 74 74 ty 5 g o n c ⟨b0, o0, none⟩ n0 c0 cur 5 (bs (b.take n)) elemB.ht (by rw [hi]; simp [hsz]) h1 hlen (fun j v hj => by
      rw [add_lit]
      refine hcell j v ?_
      rw [hsub] at hj
      rw [List.getElem?_take] at hj
      split at hj
      · exact hj
      · cases hj) (by rw [bs_length]; omega) (fun v hv => isCell_one (bs_cell _ v hv))
  have hrr := setRow_heap w g cur ((List.take o cur.toList ++ bs (b.take n) ++ List.drop (o + (bs (b.take n)).length) cur.toList).toArray) 5 (0, 0) h1
  have hkk : Keep (fun b => b = g) w (w.setRow g ((List.take o cur.toList ++ bs (b.take n) ++ List.drop (o + (bs (b.take n)).length) cur.toList).toArray)) := ⟨rfl, rfl, rfl, by simp, fun k _ hk => setRow_other w g k _ hk⟩
  generalize w.setRow g ((List.take o cur.toList ++ bs (b.take n) ++ List.drop (o + (bs (b.take n)).length) cur.toList).toArray) = w' at hrun hrr hkk
  have hpl := patch_length (l := ls) (o := o) (b := b.take n) (by omega)
  refine hard_rule (run_builtin (vs := [.slice (some ⟨g, o, none⟩) n c, .slice (some ⟨b0, o0, none⟩) n0 c0]) (by simp [hx, hyv]) (fun cs => by
    simp only [builtin, Sem.run_bind, hrun, Result.andThen_ok]; rfl)) ?_
  rw [bs_length]
  refine h w' hkk ⟨_, hrr, ?_, ?_⟩
  · rw [hpl]; simp [bs_length]; omega
  · rw [hpl]
    have h4 : bs (patch ls o (b.take n)) = (bs ls).take o ++ bs (b.take n) ++ (bs ls).drop (o + (b.take n).length) := by
      simp [patch, bs, List.map_take, List.map_drop]
    rw [h4, <- h3, List.take_take, Nat.min_eq_left (by omega), List.drop_take, bs_length]
    have hl : (cur.toList.take o ++ bs (b.take n)).length = o + (b.take n).length := by
      rw [List.length_append, List.length_take, bs_length, Array.length_toList]; omega
    simp only
    rw [List.take_append, hl, List.take_of_length_le (by rw [hl]; omega)]
end rules
theorem enterWr1 {Φ : Value -> World -> Prop} {Ψ : List PanicEntry -> World -> Prop} {w : World} (v0 v1 v2 v3 : Value) (h : symS 55 Tryz.prog F69 ⟨fun e w => Φ (oneOf []) w, fun _ _ _ => False, fun e w => Φ (oneOf []) w, Ψ⟩ (upd (upd (upd (upd env0 0 v0) 1 v1) 2 v2) 3 v3) w) : Calls Tryz.prog 69 #[v0, v1, v2, v3] w (Out Φ Ψ) := calls_sym (args := [v0, v1, v2, v3]) 55 [] Tryz.func69 (by kernel_rfl) (by kernel_rfl) (by decide) (by kernel_rfl) (by kernel_rfl) (by simp) F69_eq h
def lenIn (w : World) (b : Nat) : Nat := match w.cell? ⟨b, 0, none⟩ with | some (.slice _ n _) => n | _ => 0
theorem BoxAt.lenIn {G : Gh} {w : World} {b o n c : Nat} {a : Option Addr} (h : BoxAt G w b o (.slice a n c)) : lenIn w b = n := by
  unfold Go.Proofs.YtddiikeepncakabGreat.lenIn
  rw [h.cell]
theorem BoxAt.ne_opn {G : Gh} {w : World} {b o q : Nat} {v : Value} {x : Opn} (h : BoxAt G w b o v) (hq : OpnAt w q x) : q ≠ b := by
  obtain ⟨t, h1, _⟩ := h
  intro hh
  subst hh
  rw [hq] at h1
  have := congrArg Array.size (Obj.cells.inj (Option.some.inj h1)).1
  simp [x.cells_length] at this
theorem BoxAt.ne_box {G : Gh} {w : World} {b b' o o' : Nat} {v v' : Value} (h : BoxAt G w b o v) (h' : BoxAt G w b' o' v') (hv : v ≠ v') : b ≠ b' := by
  obtain ⟨t, h1, _⟩ := h
  obtain ⟨t', h2, _⟩ := h'
  intro hh
  subst hh
  rw [h1] at h2
  have := (Obj.cells.inj (Option.some.inj h2)).1
  simp at this
  exact hv this
section
variable {G : Gh} {κ μ m p lq came s q i a : Nat} {w : World} {c : Csh} {P I : List Bool} {F : Nat -> Option Opn} {B : Nat -> List UInt8} {o : Opn} {b d : List UInt8}
set_option maxRecDepth 20000 in
set_option maxHeartbeats 4000000 in
theorem write1_spec {fa fb pos : Nat} {bv : Value} (h : MapAt G κ μ w m p lq came c P I) (hs : StoreAt G w s m) (ha : BoxAt G w a 0 (.pointer (some ⟨s, 0, none⟩))) (hq : OpnAt w q o) (hoq : G.own q = 6 /\ G.fix q = 0) (hfa : BoxAt G w fa (κ + μ + 8) (.int .i64 pos)) (hfb : BoxAt G w fb (κ + μ + 8) bv) (hd : RowO (fun x => x = μ \/ x = 6 \/ x = κ + μ + 8) G w bv d)
    (hm : FMid c P I F B i o) (hok : o.Ok) (hb : Holds c o b) (hsz : pos + d.length <= 70656) :
    Calls Tryz.prog 69 #[.pointer (some ⟨a, 0, none⟩), .pointer (some ⟨q, 0, none⟩), .pointer (some ⟨fa, 0, none⟩), .pointer (some ⟨fb, 0, none⟩)] w
      (RetF (fun _ w' => Did (fun x => x = μ \/ x = 6 \/ x = κ + μ + 8) G κ μ w m p lq came c P I F B i (fun c' P' o' b' => b' = wrB b pos d /\ o'.size = max o.size (pos + d.length) /\ o'.kind = o.kind /\ o'.mode = o.mode /\ o'.links = o.links /\ freeN P' + needN (max o.size (pos + d.length)) = freeN P + needN o.size /\ Dty (2 :: (3 + i / 8) :: o'.own) c c') w')
      (fun w' => Stop (fun x => x = μ \/ x = 6 \/ x = κ + μ + 8) G κ μ w m p lq came I.length c (freeN P + needN o.size) (needN (max o.size (pos + d.length))) (3 + needN (max o.size (pos + d.length))) w')) := by
  obtain ⟨hne1, hne2, hne3⟩ := h.1.cache.ne
  have h6 := h.1.ne
  have hx6 : ∀ x, x = μ -> x = μ \/ x = 6 \/ x = κ + μ + 8 := fun x hh => .inl hh
  have hx6' : ∀ x, x = 6 -> x = μ \/ x = 6 \/ x = κ + μ + 8 := fun x hh => .inr (.inl hh)
  have hx8 : ∀ x, x = κ + μ + 8 -> x = μ \/ x = 6 \/ x = κ + μ + 8 := fun x hh => .inr (.inr hh)
  have hx68 : ∀ x, x = μ \/ x = 6 -> x = μ \/ x = 6 \/ x = κ + μ + 8 := fun x hh => hh.elim .inl (fun h => .inr (.inl h))
  have h06 : ¬((0 : Nat) = μ \/ (0 : Nat) = 6) := by omega
  have h86 : ¬(κ + μ + 8 = μ \/ κ + μ + 8 = 6) := by omega
  have h8μ : ¬(κ + μ + 8 = μ) := by omega
  have h8 : ¬(κ + μ + 8 = 6) := by omega
  have h08 : ¬((0 : Nat) = κ + μ + 8) := by omega
  have hκ8 : ¬(κ = κ + μ + 8) := by omega
  have hμ8 : ¬(μ = κ + μ + 8) := by omega
  have h68 : ¬(6 = κ + μ + 8) := by omega
  have h0μ : ¬((0 : Nat) = μ) := by omega
  have h00 : ¬((0 : Nat) = 6) := by omega
  have hnm : ¬(6 = μ) := fun hh => h6.2 hh.symm
  have hos := hok.size
  have hbl := hb.len
  generalize hsz' : max o.size (pos + d.length) = size
  have hs1 : size <= 70656 := by omega
  have hs2 : pos + d.length <= size := by omega
  have hs3 : o.size <= size := by omega
  apply enterWr1
  apply R_in
  have hc3 := hq.cell (j := 3) (by omega)
  rw [show o.cell 3 = o.size from rfl] at hc3
  have hlen0 : ∀ w', lenF w' 0 bv = some (.int .i64 d.length) := fun w' => hd.1.lenB w'
  simp (maxSteps := 999999) (disch := omega) only [↓sy1, sZ, readOK, Nat.reduceEqDiff, ↓reduceIte, oneOf, Nat.reduceAdd, Nat.reduceMul, reduceCtorEq, F69, ha.cell, hc3, hfa.cell, hfb.cell, hlen0]
  refine max_rule (a := o.size) (b := ((pos + d.length : Nat) : Int)) (by simp only [upd_at, Nat.reduceEqDiff, reduceIte, ev_tmp, ev_const, List.map_cons, List.map_nil]) (by simp only [upd_at, Nat.reduceEqDiff, reduceIte, ev_tmp, ev_const, List.map_cons, List.map_nil]; rfl) ?_
  have hmx : (if ((pos + d.length : Nat) : Int) > (o.size : Int) then ((pos + d.length : Nat) : Int) else (o.size : Int)) = ((size : Nat) : Int) := by split <;> omega
  rw [hmx]
  simp (maxSteps := 999999) (disch := omega) only [↓sy1, sZ, readOK, Nat.reduceEqDiff, ↓reduceIte, oneOf, Nat.reduceAdd, Nat.reduceMul, reduceCtorEq]
  refine callF (resize_spec h hs hq hoq hm hok hb hs1) ?_ ?_
  · rintro w1 ⟨G1, c1, L, hx1, h1, hdd, hn⟩
    exact ⟨rfl, stop_of (hx1.mono hx68) h1 hdd (hn.mono (Nat.le_refl _) (by omega))⟩
  rintro _ w1 ⟨G1, c1, P1, o1, hx1, h1, hq1, hoq1, hr⟩
  have hok1 := hr.ok
  have hdl1 := hok1.data
  rw [hr.sz] at hdl1
  have hp138 := pagesN_le hs1
  have hlen1 := hok1.own_len
  rw [hr.sz] at hlen1
  have hnum1 := hr.mid.num
  have hfl1 := hr.holds.flat
  rw [hr.sz, hdl1] at hfl1
  generalize hL0 : rszB b size ++ List.replicate (512 * pagesN size - size) 0 = L0 at hfl1
  have hL0l : L0.length = 512 * pagesN size := by
    rw [<- hL0, List.length_append, rszB_length, List.length_replicate]
    unfold pagesN; omega
  have hps : size <= 512 * pagesN size := by unfold pagesN; omega
  have hndd : o1.data.Nodup := by
    have hnd := hr.mid.own.nodup i o1 upF_same
    rw [Opn.own, List.nodup_append] at hnd; exact hnd.1
  simp (maxSteps := 999999) (disch := omega) only [↓sy1, sZ, readOK, Nat.reduceEqDiff, ↓reduceIte, oneOf, Nat.reduceAdd, Nat.reduceMul, reduceCtorEq]
  refine loop_rule (fun e w' => ∃ (j : Nat) (G' : Gh) (c' : Csh) (bv' : Value), j <= d.length /\ e 0 = .pointer (some ⟨a, 0, none⟩) /\ e 1 = .pointer (some ⟨q, 0, none⟩) /\ e 2 = .pointer (some ⟨fa, 0, none⟩) /\ e 3 = .pointer (some ⟨fb, 0, none⟩) /\
      Ext (fun x => x = μ \/ x = 6 \/ x = κ + μ + 8) G w G' w' /\ MapAt G' κ μ w' m p lq came c' P1 I /\ StoreAt G' w' s m /\ BoxAt G' w' a 0 (.pointer (some ⟨s, 0, none⟩)) /\ OpnAt w' q o1 /\ (G'.own q = 6 /\ G'.fix q = 0) /\ BoxAt G' w' fa (κ + μ + 8) (.int .i64 ((pos + j : Nat) : Int)) /\ BoxAt G' w' fb (κ + μ + 8) bv' /\ RowO (fun x => x = μ \/ x = 6 \/ x = κ + μ + 8) G' w' bv' (d.drop j) /\
      FMid c' P1 I F B i o1 /\ o1.data.flatMap c'.page = patch L0 pos (d.take j) /\ Dty (2 :: o1.own) c c') (fun _ w' => lenIn w' fb)
    ⟨0, G1, c1, bv, by omega, by simp [upd, updO, ev], by simp [upd, updO, ev], by simp [upd, updO, ev], by simp [upd, updO, ev], hx1.mono hx68, h1, hs.ext hx1 h06, ha.ext hx1 h06, hq1, hoq1, hfa.ext hx1 h86, hfb.ext hx1 h86, hd.ext hx1 hx68, hr.mid, by rw [hfl1]; simp [patch], hr.dty⟩ ?_
  rintro e w2 ⟨j, G2, c2, bv2, hj, e0, e1, e2, e3, hx2, h2, hs2, ha2, hq2, hoq2, hfa2, hfb2, hd2, hm2, hfl2, hdt2⟩
  have hlend : (d.drop j).length = d.length - j := List.length_drop
  have hlen2 : ∀ w', lenF w' 0 bv2 = some (.int .i64 ((d.length - j : Nat) : Int)) := fun w' => by rw [hd2.1.lenB w', hlend]
  obtain ⟨a2, cp2, hbv2⟩ := Has.slice hd2.1
  rw [bs_length, hlend] at hbv2
  by_cases hlt : j < d.length
  · have hkk : (pos + j) / 512 < o1.data.length := by rw [hdl1]; unfold pagesN; omega
    have hsp := slot_page (o := o1) (k := (pos + j) / 512) hkk
    have hcell := hq2.cell (j := slotJ ((pos + j) / 512)) (slotJ_lt (by omega))
    generalize hn : o1.cell (slotJ ((pos + j) / 512)) = n at hsp hcell
    obtain ⟨g1, g2, g3, g4⟩ := hm2.pg hsp.2
    have hquo : ((pos + j : Nat) : Int).tdiv 512 = (((pos + j) / 512 : Nat) : Int) := rfl
    have hrem : ((pos + j : Nat) : Int).tmod 512 = (((pos + j) % 512 : Nat) : Int) := rfl
    simp (maxSteps := 999999) (disch := omega) only [↓sy1, sZ, readOK, Nat.reduceEqDiff, ↓reduceIte, oneOf, Nat.reduceAdd, Nat.reduceMul, reduceCtorEq, F69_L0, e0, e1, e2, e3, hfb2.cell, hlen2, show (0 : Int) < ((d.length - j : Nat) : Int) from by omega, decide_true, hfa2.cell, hquo]
    refine call0 (slot_spec (q := q) (j := (pos + j) / 512) (by omega)) ?_
    rintro _ w3 ⟨rfl, hw3⟩
    subst w3
    simp (maxSteps := 999999) (disch := omega) only [↓sy1, sZ, readOK, Nat.reduceEqDiff, ↓reduceIte, oneOf, Nat.reduceAdd, Nat.reduceMul, reduceCtorEq, hcell, ha2.cell, hs2.cell, e0, e1, e2, e3]
    refine call0 (mcache_spec h2.1) ?_
    rintro _ w3 ⟨rfl, hw3⟩
    subst w3
    simp (maxSteps := 999999) (disch := omega) only [↓sy1, sZ, readOK, Nat.reduceEqDiff, ↓reduceIte, oneOf, Nat.reduceAdd, Nat.reduceMul, reduceCtorEq]
    refine call0 (pread_spec h2.1 (n := n) g3) ?_
    rintro _ w3 ⟨g, cap, G3, rfl, hcap, hgw, hrow, hog, h3, hx3⟩
    simp (maxSteps := 999999) (disch := omega) only [↓sy1, sZ, readOK, Nat.reduceEqDiff, ↓reduceIte, oneOf, Nat.reduceAdd, Nat.reduceMul, reduceCtorEq, e0, e1, e2, e3]
    refine draw69_0 (fun _ => False) ?_
    have hgd : Grow w3 w3.drew := (Keep.refl _ _).drew
    have hpl := h2.1.cache.oks.plen g3
    have hx3' := hx3.trans (.grow (κ := fun x => x = μ) (G := G3) hgd)
    have hq4 : OpnAt w3.drew q o1 := hx3'.heap hq2 (by rw [hoq2.1]; exact hnm)
    have hoq4 : G3.own q = 6 /\ G3.fix q = 0 := by rw [hx3.own _ hq2.lt, hx3.fixe _ hq2.lt (by rw [hoq2.1]; exact hnm)]; exact hoq2
    have hs4 := hs2.ext hx3' h0μ
    have ha4 := ha2.ext hx3' h0μ
    have hfa4 := hfa2.ext hx3' h8μ
    have hfb4 := hfb2.ext hx3' h8μ
    have hd4 := hd2.ext hx3' hx6
    have hrow4 := hrow.keep hgd id
    have h4 := h3.grow hgd
    have hgq : q ≠ g := by have := hq2.lt; omega
    have hga : fa ≠ g := by have := hfa2.lt; omega
    have hgb : fb ≠ g := by have := hfb2.lt; omega
    have hgaa : a ≠ g := by have := ha2.lt; omega
    generalize w3.drew = w4 at hgd hx3' hq4 hs4 ha4 hfa4 hfb4 hd4 hrow4 h4 |-
    have hslc := slcV_from (g := g) (o := 0) (len := 512) (cap := cap) (kx := .i64) (lo := (((pos + j) % 512 : Nat) : Int)) (a := (pos + j) % 512) rfl (by omega) hcap
    simp (maxSteps := 999999) (disch := omega) only [↓sy1, sZ, readOK, Nat.reduceEqDiff, ↓reduceIte, oneOf, Nat.reduceAdd, Nat.reduceMul, reduceCtorEq, PL69_0, e0, e1, e2, e3, hfa4.cell, hfb4.cell, hrem, hslc, Nat.zero_add]
    refine copyB_rule (b := d.drop j) (by simp only [upd_at, Nat.reduceEqDiff, reduceIte, ev_tmp, ev_const, List.map_cons, List.map_nil]; rfl) hrow4 (by omega) (by simp only [upd_at, Nat.reduceEqDiff, reduceIte, ev_tmp, ev_const, List.map_cons, List.map_nil]; exact hd4.1) (by intro hh; rw [hh] at hlend; simp at hlend; omega) ?_
    intro w5 hk5 hrow5
    generalize hy : (d.drop j).take (512 - (pos + j) % 512) = y at hrow5
    have hyl : y.length = min (512 - (pos + j) % 512) (d.length - j) := by rw [<- hy, List.length_take, hlend]
    have hy0 : 0 < y.length := by omega
    have hxs5 : Ext (fun x => x = 6) G3 w4 G3 w5 := .on0 hk5 hog.1 hog.2
    have hq5 := hq4.keep hk5 hgq
    have hs5 := hs4.ext hxs5 h00
    have ha5 := ha4.ext hxs5 h00
    have hfa5 := hfa4.ext hxs5 h8
    have hfb5 := hfb4.ext hxs5 h8
    have hd5 := hd4.ext hxs5 hx6'
    have h5 : MapC G3 κ μ w5 m p lq came c2 I.length := h4.ext hxs5 h6.1 h6.2 h00
    have hx5 := (hx2.trans (hx3'.mono hx6)).trans (hxs5.mono hx6')
    have hptl := patch_length (l := c2.page n) (o := (pos + j) % 512) (b := y) (by omega)
    rw [hpl] at hptl
    have hbr : HasB w5 (.slice (some ⟨g, 0, none⟩) 512 cap) (patch (c2.page n) ((pos + j) % 512) y) := by
      have := hrow5.part (o := 0) (m := 512) (c := cap) (by omega) hcap
      rw [List.drop_zero, List.take_of_length_le (by omega)] at this
      exact this
    simp (maxSteps := 999999) (disch := omega) only [↓sy1, sZ, readOK, Nat.reduceEqDiff, ↓reduceIte, oneOf, Nat.reduceAdd, Nat.reduceMul, reduceCtorEq, e0, e1, e2, e3, ha5.cell]
    refine callF (iwrite_spec h5 hs5 hbr hptl) ?_ ?_
    · rintro w6 ⟨hw, G6, hx6', h6'⟩
      have := hdt2.full (n := n) (by simp [hsp.2]) g3 hw
      rw [List.length_cons] at this
      exact ⟨rfl, stop_of (hx5.trans (hx6'.mono hx6)) h6' hdt2 (.inr ⟨hdt2.fullN (n := n) g3 hw, by omega⟩)⟩
    rintro _ w6 ⟨hw, G6, hxm6, h6m⟩
    have hq6 : OpnAt w6 q o1 := hxm6.heap hq5 (by rw [hoq4.1]; exact hnm)
    have hoq6 : G6.own q = 6 /\ G6.fix q = 0 := by rw [hxm6.own _ hq5.lt, hxm6.fixe _ hq5.lt (by rw [hoq4.1]; exact hnm)]; exact hoq4
    have hs6 := hs5.ext hxm6 h0μ
    have ha6 := ha5.ext hxm6 h0μ
    have hfa6 := hfa5.ext hxm6 h8μ
    have hfb6 := hfb5.ext hxm6 h8μ
    have hd6 := hd5.ext hxm6 hx6
    have hmid6 := hm2.write (b := patch (c2.page n) ((pos + j) % 512) y) hsp.2
    have hmap6 : MapAt G6 κ μ w6 m p lq came (c2.write n (patch (c2.page n) ((pos + j) % 512) y)) P1 I := ⟨h6m, hmid6.alc⟩
    obtain ⟨w7, st7, hfa7, hx7, hk7⟩ := hfa6.store (u := .int .i64 ((pos + (j + y.length) : Nat) : Int)) rfl
    have hfb7 := hfb6.keep hk7 (hfb6.ne_box hfa6 (by rw [hbv2]; exact fun hh => by cases hh))
    have hq7 := hq6.keep hk7 (hfa6.ne_opn hq6)
    have hd7 := hd6.ext hx7 hx8
    obtain ⟨bv8, hs8, hd8⟩ := hd7.slcFrom (m := y.length) (by rw [hlend]; omega)
    rw [List.drop_drop] at hd8
    have hbv8 : isCell bv8 = true := hd8.1.isCell
    obtain ⟨w8, st8, hfb8, hx8', hk8⟩ := hfb7.store (u := bv8) hbv8
    have hfa8 := hfa7.keep hk8 (fun hh => hfb7.ne_box hfa7 (by rw [hbv2]; exact fun hh => by cases hh) hh.symm)
    have hq8 := hq7.keep hk8 (hfb7.ne_opn hq7)
    have hd9 := hd8.ext hx8' hx8
    have hadd : ((pos + j : Nat) : Int) + ((y.length : Nat) : Int) = ((pos + (j + y.length) : Nat) : Int) := by omega
    simp (maxSteps := 999999) (disch := omega) only [↓sy1, sZ, readOK, Nat.reduceEqDiff, ↓reduceIte, oneOf, Nat.reduceAdd, Nat.reduceMul, reduceCtorEq, e0, e1, e2, e3, hfa6.cell, hadd, st7, hfb7.cell, hs8, st8]
    obtain ⟨a8, cp8, hbv8'⟩ := Has.slice hd9.1
    have hlt8 : lenIn w8 fb < lenIn w2 fb := by
      rw [hbv8', bs_length, List.length_drop] at hfb8
      rw [hbv2] at hfb2
      rw [hfb8.lenIn, hfb2.lenIn]; omega
    refine R_out ⟨⟨j + y.length, G6, _, bv8, by omega, ((hx5.trans (hxm6.mono hx6)).trans (hx7.mono hx8)).trans (hx8'.mono hx8), (hmap6.ext hx7 hκ8 hμ8 h08).ext hx8' hκ8 hμ8 h08, (hs6.ext hx7 h08).ext hx8' h08, (ha6.ext hx7 h08).ext hx8' h08, hq8, hoq6, hfa8, hfb8, hd9, hmid6, ?_, hdt2.trans (.write (by simp [hsp.2]))⟩, hlt8⟩
    have hpd : ∀ x ∈ o1.data, (c2.page x).length = 512 := fun x hx => h2.1.cache.oks.plen (hm2.pg (by simp [Opn.own, hx])).2.2.1
    have hw := flat_write (f := c2.page) hpd hptl hndd hsp.1
    have hpw : (c2.write n (patch (c2.page n) ((pos + j) % 512) y)).page = fun x => if x = n then patch (c2.page n) ((pos + j) % 512) y else c2.page x := by
      funext x; rw [Csh.write_page]
    have hfl := flat_length hpd
    have hfp := flat_part hpd hsp.1
    have htk : (d.take j).length = j := by rw [List.length_take]; omega
    rw [hpw, hw, <- hfp, patch_page (by rw [hfl]; omega) (by omega), hfl2, show 512 * ((pos + j) / 512) + (pos + j) % 512 = pos + (d.take j).length from by rw [htk]; omega]
    rw [patch_cont (by rw [htk]; omega)]
    rw [<- hy, take_chunk]
  have hje : j = d.length := by omega
  subst hje
  rw [List.take_length] at hfl2
  have hwr : patch L0 pos d = wrB b pos d ++ List.replicate (512 * pagesN size - size) 0 := by
    rw [<- hL0, patch_left (by rw [rszB_length]; omega), wrB, hbl, hsz']
  have hwl : (wrB b pos d).length = size := by rw [wrB_length, hbl, hsz']
  simp (maxSteps := 999999) (disch := omega) only [↓sy1, sZ, readOK, Nat.reduceEqDiff, ↓reduceIte, oneOf, Nat.reduceAdd, Nat.reduceMul, reduceCtorEq, F69_L0, e0, e1, e2, e3, hfb2.cell, hlen2, show ¬((0 : Int) < ((d.length - d.length : Nat) : Int)) from by omega, decide_false, ha2.cell, hq2.load]
  refine callF (fsave_spec (b := wrB b pos d) h2 hs2 hm2 hok1 ⟨by rw [hfl2, hwr, hdl1, hr.sz], by rw [hwl, hr.sz]⟩) ?_ ?_
  · rintro w3 ⟨G3, c3, hx3, h3, hdd, hc1, hc2⟩
    have hl := hdt2.len
    have hN := hdt2.N
    have hC := hdt2.cap
    rw [List.length_cons] at hl
    exact ⟨rfl, stop_of (hx2.trans (hx3.mono hx6)) h3 (hdt2.app hdd) (.inr ⟨by omega, by omega⟩)⟩
  rintro _ w3 ⟨G3, hx3, h3, hf3⟩
  simp (maxSteps := 999999) (disch := omega) only [↓sy1, sZ, readOK, Nat.reduceEqDiff, ↓reduceIte, oneOf, Nat.reduceAdd, Nat.reduceMul, reduceCtorEq]
  refine R_out ⟨G3, _, P1, o1, _, hx2.trans (hx3.mono hx6), h3, hf3, rfl, hr.sz, hr.kind, hr.mode, hr.links, hr.free, ?_⟩
  rw [<- hnum1.1]
  by_cases hi : o1.ind = 0
  · exact (hdt2.mono (fun x hx => by rcases List.mem_cons.1 hx with rfl | hx <;> simp [*])).trans ((c2.save_dty0 hi).mono (by simp))
  · exact (hdt2.mono (fun x hx => by rcases List.mem_cons.1 hx with rfl | hx <;> simp [*])).trans ((c2.save_dty o1).mono (fun x hx => by
      simp at hx
      rcases hx with rfl | rfl
      · simp
      · simp [Opn.own, hi]))
end
abbrev KW (κ μ : Nat) : Nat -> Prop := fun x => x = μ \/ x = 6 \/ x = κ + μ + 8
section
variable {G : Gh} {κ μ m p lq came s : Nat} {w : World} {c : Csh} {P I : List Bool} {F : Nat -> Option Opn} {B : Nat -> List UInt8}
abbrev XT := Csh -> List Bool -> List Bool -> (Nat -> Option Opn) -> (Nat -> List UInt8) -> Prop
def TryR (G : Gh) (κ μ : Nat) (w : World) (s m p lq came k : Nat) (c : Csh) (free want most : Nat) (X : XT) (Z Zf : Gh -> World -> Prop) (v : Value) : Prop :=
  (v = .int .i64 0 /\ ∃ c' P' I' F' B', Ino G κ μ w s m p lq came c' P' I' F' B' /\ Near c c' /\ I'.length = k /\ X c' P' I' F' B' /\ Z G w) \/ (v = .int .i64 7 /\ Back G κ μ w s m p lq came k c /\ NoRoom c free want most /\ Zf G w)
theorem tryI {f free want most : Nat} {caps : Array Value} {X : XT} {Z Zf : Gh -> World -> Prop} (h : Ino G κ μ w s m p lq came c P I F B) (hf : callable Tryz.prog f = true)
    (hZ : ∀ G1 w1 w', Z G1 w1 -> Ext (fun x => x = κ + μ + 7) G1 w1 G1 w' -> Z G1 w')
    (hZf : ∀ G1 w1 w' o, o = μ \/ o = κ + μ + 7 -> Zf G1 w1 -> Ext (fun x => x = o) G1 w1 G1 w' -> Zf G1 w')
    (hc : ∀ G0, Ext0 G w G0 (tryW w s) -> Ino G0 κ μ (tryW w s) s m p lq came c P I F B -> Calls Tryz.prog f caps (tryW w s) (RetF (fun _ w1 => ∃ G1 c' P' I' F' B', Ext (KW κ μ) G0 (tryW w s) G1 w1 /\ MapAt G1 κ μ w1 m p lq came c' P' I' /\ FsOk c' P' I' F' B' /\ Near c c' /\ I'.length = I.length /\ X c' P' I' F' B' /\ Z G1 w1)
      (fun w1 => StopZ (KW κ μ) G0 κ μ (tryW w s) m p lq came I.length c free want most Zf w1))) :
    Calls Tryz.prog 43 #[.pointer (some ⟨s, 0, none⟩), .func (.func f) #[] caps] w (Ret fun v w' => ∃ G', Ext (KW κ μ) G w G' w' /\ TryR G' κ μ w' s m p lq came I.length c free want most X Z Zf v) := by
  obtain ⟨hne1, hne2, hne3⟩ := h.map.1.cache.ne
  have h6 := h.map.1.ne
  have hg : Grow w (tryW w s) := ((Keep.refl _ _).alloc _).alloc _
  have hx0 : Ext0 G w (G.upto w.heap.size (fun _ => κ + μ + 7) (fun _ => 0)) (tryW w s) := .upto hg _ _
  have hoa := upto_own (G := G) (o := κ + μ + 7) (f := 0) (Nat.le_refl w.heap.size)
  have hob := upto_own (G := G) (o := κ + μ + 7) (f := 0) (Nat.le_succ w.heap.size)
  have hszT : w.heap.size + 1 < (tryW w s).heap.size := by simp [tryW]
  have h0 := h.ext hx0 id id id
  have hos : (G.upto w.heap.size (fun _ => κ + μ + 7) (fun _ => 0)).own s = 0 := h0.sto.2
  generalize (G.upto w.heap.size (fun _ => κ + μ + 7) (fun _ => 0)) = G0 at hx0 hoa hob h0 hos
  have hK0 : ¬ KW κ μ 0 := by unfold KW; omega
  have hKν : ¬ KW κ μ (κ + μ + 7) := by unfold KW; omega
  have hKμ : ∀ x, x = μ -> KW κ μ x := fun x hh => .inl hh
  refine Ret.mono (try_spec (κ := κ) (μ := μ) (m := m) (p := p) (lq := lq) (came := came) (k := I.length) (K := KW κ μ) (G0 := G0)
    (Q := fun w1 => ∃ G1 c' P' I' F' B', Ext (KW κ μ) G0 (tryW w s) G1 w1 /\ MapAt G1 κ μ w1 m p lq came c' P' I' /\ FsOk c' P' I' F' B' /\ Near c c' /\ I'.length = I.length /\ X c' P' I' F' B' /\ Z G1 w1)
    (B := fun w1 => ∃ G1, Ext (KW κ μ) G0 (tryW w s) G1 w1 /\ Back G1 κ μ w1 s m p lq came I.length c /\ NoRoom c free want most /\ Zf G1 w1)
    hf hK0 hne2 h.sto.cell hos (by rw [hoa.1]; exact hKν) ⟨by rw [hob.1]; exact hKν, by rw [hob.1]; omega⟩ (RetF.mono (hc G0 hx0 h0) ?_ ?_)) ?_
  · rintro v w1 ⟨G1, c', P', I', F', B', hx, hm, hfs, hn, hi, hX, hz⟩
    exact ⟨G1, hx, G1, c', P', I', F', B', hx, hm, hfs, hn, hi, hX, hz⟩
  · rintro w1 ⟨G1, c1, L, hx, hm, hd, hn, hz⟩
    refine ⟨G1, c1, hx, hm, fun w2 hm2 hx2 => ⟨G1, hx.trans (hx2.mono hKμ), ?_, hn, hZf _ _ _ _ (.inl rfl) hz hx2⟩⟩
    exact h0.back (hx.trans (hx2.mono hKμ)) hK0 hm2 hd.near
  · rintro v w' ⟨w1, hk, hR⟩
    rcases hR with ⟨rfl, G1, c', P', I', F', B', hx, hm, hfs, hn, hi, hX, hz⟩ | ⟨rfl, G1, hx, hb, hn, hz⟩
    · have ho1 : G1.own (w.heap.size + 1) = κ + μ + 7 /\ G1.fix (w.heap.size + 1) = 0 := by rw [hx.own _ hszT, hx.fixe _ hszT (by rw [hob.1]; exact hKν)]; exact hob
      have hxs : Ext (fun x => x = κ + μ + 7) G1 w1 G1 w' := .on0 hk ho1.1 ho1.2
      have hsto := h0.sto.ext hx hK0
      refine ⟨G1, ((hx0.mono fE).trans hx).then hk (by omega), .inl ⟨rfl, c', P', I', F', B', ⟨hm.ext hxs (by omega) (by omega) (by omega), hsto.ext hxs (by omega), hfs, by rw [hi]; exact h.old.near hn⟩, hn, hi, hX, hZ _ _ _ hz hxs⟩⟩
    · have ho1 : G1.own (w.heap.size + 1) = κ + μ + 7 /\ G1.fix (w.heap.size + 1) = 0 := by rw [hx.own _ hszT, hx.fixe _ hszT (by rw [hob.1]; exact hKν)]; exact hob
      have hxs : Ext (fun x => x = κ + μ + 7) G1 w1 G1 w' := .on0 hk ho1.1 ho1.2
      obtain ⟨c', P', I', F', B', h1, h2, h3⟩ := hb
      exact ⟨G1, ((hx0.mono fE).trans hx).then hk (by omega), .inr ⟨rfl, ⟨c', P', I', F', B', h1.ext hxs (by omega) (by omega) (by omega), h2, h3⟩, hn, hZf _ _ _ _ (.inr rfl) hz hxs⟩⟩
end
theorem look_cases (F : Nat -> Option Opn) (k : Nat) (i : Int) : (lookC F k i ≠ 0 /\ lookO F k i = Opn.zero) \/ (lookC F k i = 0 /\ ∃ (j : Nat) (o : Opn), i = j /\ 1 <= j /\ j < k /\ F j = some o /\ lookO F k i = o) := by
  unfold lookC lookO
  by_cases h : i < 1 \/ (k : Int) <= i
  · rw [if_pos h, if_pos h]; exact .inl ⟨by omega, rfl⟩
  · rw [if_neg h, if_neg h]
    cases hF : F i.toNat with
    | none => exact .inl ⟨by simp, rfl⟩
    | some o => exact .inr ⟨by simp, i.toNat, o, by omega, by omega, by omega, hF, rfl⟩
theorem openO (G : Gh) (w : World) (o : Opn) : ∃ w' G', stnF (w.alloc (.cells (Value.agg (Array.replicate 144 (.int .i64 0))).cells 85)) 144 (.pointer (some ⟨w.heap.size, 0, none⟩)) (.agg o.cells.toArray) = some (undef, w') /\ OpnAt w' w.heap.size o /\ (G'.own w.heap.size = 6 /\ G'.fix w.heap.size = 0) /\ Ext0 G w G' w' := by
  obtain ⟨w', hst, hq, hk⟩ := (OpnAt.new w).stn o
  have hg : Grow w (w.alloc (.cells (Value.agg (Array.replicate 144 (.int .i64 0))).cells 85)) := (Keep.refl _ _).alloc _
  exact ⟨w', G.upto w.heap.size (fun _ => 6) (fun _ => 0), hst, hq, upto_own (Nat.le_refl _), .upto (hg.then hk (fun b hb hh => by omega)) _ _⟩
theorem boxO (G : Gh) (w : World) (v : Value) (t : TypeId) (o : Nat) (hv : isCell v = true) : ∃ G', BoxAt G' (w.alloc (.cells v.cells t)) w.heap.size o v /\ Ext0 G w G' (w.alloc (.cells v.cells t)) := by
  have hg : Grow w (w.alloc (.cells v.cells t)) := (Keep.refl _ _).alloc _
  have h := upto_own (G := G) (o := o) (f := 0) (Nat.le_refl w.heap.size)
  refine ⟨G.upto w.heap.size (fun _ => o) (fun _ => 0), .of (t := t) ?_ h.1 h.2, .upto hg _ _⟩
  rw [isCell_cells hv]; exact heap_alloc_new _ _
section
variable {G : Gh} {κ μ m p lq came s : Nat} {w : World} {c : Csh} {P I : List Bool} {F : Nat -> Option Opn} {B : Nat -> List UInt8}
theorem Ino.load (h : Ino G κ μ w s m p lq came c P I F B) {i : Int} :
    Calls Tryz.prog 41 #[.pointer (some ⟨s, 0, none⟩), .int .i64 i] w (Ret fun v w' => v = .tuple #[.agg (lookO F I.length i).cells.toArray, .int .i64 (lookC F I.length i)] /\ ∃ G', Ext (fun x => x = μ) G w G' w' /\ Ino G' κ μ w' s m p lq came c P I F B) :=
  Ret.mono (load_spec h.map h.sto h.fs) fun _ _ ⟨h1, G', hx, hm⟩ => ⟨h1, G', hx, hm, h.sto.ext hx (fun hh => h.map.1.cache.ne.2.1 hh.symm), h.fs, h.old⟩
theorem Ino.file (h : Ino G κ μ w s m p lq came c P I F B) {j : Nat} {o : Opn} (hF : F j = some o) : FMid c P I F B j o /\ o.Ok /\ Holds c o (B j) := ⟨h.fs.mid hF, h.fs.ok j o hF, (h.fs.recs j o hF).bytes, (h.fs.recs j o hF).len⟩
def setC (F : Nat -> Option Opn) (k : Nat) (i md ln : Int) : Int := if lookC F k i ≠ 0 then lookC F k i else if (0 <= md /\ md <= 4095) /\ 0 <= ln /\ ln <= 65535 then 0 else 2
def SetR (G : Gh) (κ μ : Nat) (w : World) (s m p lq came : Nat) (c : Csh) (P I : List Bool) (F : Nat -> Option Opn) (B : Nat -> List UInt8) (i md ln : Int) (v : Value) : Prop :=
  (setC F I.length i md ln ≠ 0 /\ v = .int .i64 (setC F I.length i md ln) /\ Ino G κ μ w s m p lq came c P I F B) \/
  (setC F I.length i md ln = 0 /\ ∃ (j : Nat) (o : Opn), i = j /\ F j = some o /\ TryR G κ μ w s m p lq came I.length c 0 0 2 (fun c' P' I' F' B' => P' = P /\ I' = I /\ F' = upF F j (some { o with mode := md.toNat, links := ln.toNat }) /\ B' = B /\ ∃ L, L.length <= 2 /\ Dty L c c') (fun _ _ => True) (fun _ _ => True) v)
set_option maxRecDepth 20000 in
set_option maxHeartbeats 2000000 in
theorem iset_spec (h : Ino G κ μ w s m p lq came c P I F B) {i md ln : Int} :
    Calls Tryz.prog 36 #[.pointer (some ⟨s, 0, none⟩), .int .i64 i, .int .i64 md, .int .i64 ln] w (Ret fun v w' => ∃ G', Ext (KW κ μ) G w G' w' /\ SetR G' κ μ w' s m p lq came c P I F B i md ln v) := by
  obtain ⟨hne1, hne2, hne3⟩ := h.map.1.cache.ne
  have h6 := h.map.1.ne
  have hK0 : ¬ KW κ μ 0 := by unfold KW; omega
  have h0μ : ¬((0 : Nat) = μ) := by omega
  apply enter36
  apply R_in
  obtain ⟨G1, hb1, hx1⟩ := boxO G w (.pointer (some ⟨s, 0, none⟩)) 23 0 rfl
  simp (maxSteps := 999999) (disch := omega) only [↓sy1, sZ, readOK, Nat.reduceEqDiff, ↓reduceIte, oneOf, Nat.reduceAdd, Nat.reduceMul, reduceCtorEq, F36]
  generalize hw1 : w.alloc (.cells (Value.pointer (some ⟨s, 0, none⟩)).cells 23) = w1 at hb1 hx1 |-
  have h1 := h.ext hx1 id id id
  simp (maxSteps := 999999) (disch := omega) only [↓sy1, sZ, readOK, Nat.reduceEqDiff, ↓reduceIte, oneOf, Nat.reduceAdd, Nat.reduceMul, reduceCtorEq, hb1.cell]
  refine call0 (h1.load (i := i)) ?_
  rintro _ w2 ⟨rfl, G2, hx2, h2⟩
  have hb2 := hb1.ext hx2 h0μ
  obtain ⟨w3, G3, st3, hq3, hoq3, hx3⟩ := openO G2 w2 (lookO F I.length i)
  have h3 := h2.ext hx3 id id id
  have hb3 := hb2.ext hx3 id
  have hx03 : Ext (KW κ μ) G w G3 w3 := ((hx1.mono fE).trans (hx2.mono (fun x hh => .inl hh))).trans (hx3.mono fE)
  rcases look_cases F I.length i with ⟨hl, hz⟩ | ⟨hl, j, o, rfl, hj1, hjk, hF, ho⟩
  · have hc : setC F I.length i md ln = lookC F I.length i := if_pos hl
    simp (maxSteps := 999999) (disch := omega) only [↓sy1, sZ, readOK, Nat.reduceEqDiff, ↓reduceIte, oneOf, Nat.reduceAdd, Nat.reduceMul, reduceCtorEq, st3, hl, decide_false, not_false_eq_true, decide_true]
    exact R_out ⟨G3, hx03, .inl ⟨by rw [hc]; exact hl, by rw [hc], h3⟩⟩
  rw [ho] at st3 hq3
  rw [hl, ho]
  simp (maxSteps := 999999) (disch := omega) only [↓sy1, sZ, readOK, Nat.reduceEqDiff, ↓reduceIte, oneOf, Nat.reduceAdd, Nat.reduceMul, reduceCtorEq, st3, dz]
  refine call0 (imode_spec (n := md)) ?_
  rintro _ w4 ⟨rfl, hw4⟩
  subst w4
  by_cases hmd : 0 <= md /\ md <= 4095
  · by_cases hl0 : 0 <= ln
    · by_cases hl1 : ln <= 65535
      · have hc : setC F I.length j md ln = 0 := by unfold setC; rw [if_neg (by simpa using hl), if_pos ⟨hmd, hl0, hl1⟩]
        obtain ⟨md, rfl⟩ : ∃ n : Nat, md = n := ⟨md.toNat, by omega⟩
        obtain ⟨ln, rfl⟩ : ∃ n : Nat, ln = n := ⟨ln.toNat, by omega⟩
        obtain ⟨w5, st5, hq5, hk5⟩ := hq3.store (j := 1) (by omega) (u := .int .i64 md) rfl (Opn.cells_mode _ _)
        obtain ⟨w6, st6, hq6, hk6⟩ := hq5.store (j := 2) (by omega) (u := .int .i64 ln) rfl (Opn.cells_links _ _)
        have hx6 : Ext (fun x => x = 6) G3 w3 G3 w6 := .on0 (hk5.trans hk6) hoq3.1 hoq3.2
        have hm6 := h3.ext hx6 h6.1 h6.2 (by omega)
        have hb6 := hb3.ext hx6 (by omega)
        obtain ⟨hmid, hok, hho⟩ := hm6.file hF
        have hok' : ({ o with mode := md, links := ln } : Opn).Ok := ⟨hok.kind, by show md <= 4095; omega, by show ln <= 65535; omega, hok.size, hok.data, hok.ind⟩
        have hmid' := hmid.alike (o' := { o with mode := md, links := ln }) rfl rfl
        simp (maxSteps := 999999) (disch := omega) only [↓sy1, sZ, readOK, Nat.reduceEqDiff, ↓reduceIte, oneOf, Nat.reduceAdd, Nat.reduceMul, reduceCtorEq, hmd, decide_true, and_self, Bool.not_true, show ¬((ln : Int) < 0) from by omega, show ¬((65535 : Int) < (ln : Int)) from by omega, decide_false, st5, st6, hb6.cell]
        refine call0 (tryI (free := 0) (want := 0) (most := 2) (X := fun c' P' I' F' B' => P' = P /\ I' = I /\ F' = upF F j (some { o with mode := md, links := ln }) /\ B' = B /\ ∃ L, L.length <= 2 /\ Dty L c c') (Z := fun _ _ => True) (Zf := fun _ _ => True) hm6 (by kernel_rfl) (fun _ _ _ _ _ => trivial) (fun _ _ _ _ _ _ _ => trivial) ?_) ?_
        · intro G0 hx0 h0
          refine RetF.mono (set1_spec h0.map h0.sto (hb6.ext hx0 id) (hq6.keep hx0.growG id) hmid' hok' ⟨hho.flat, hho.len⟩) ?_ ?_
          · rintro _ w7 ⟨G7, c7, P7, o7, b7, hx7, h7, hf7, rfl, rfl, rfl, hd7⟩
            refine ⟨G7, c7, P7, I, _, _, hx7.mono (fun x hh => hh.elim .inl (fun hh => .inr (.inl hh))), h7, hf7, hd7.near, rfl, ⟨rfl, rfl, rfl, upB_self, _, by simp, hd7⟩, trivial⟩
          · intro w7 hS
            exact hS.z (fun x hh => hh.elim .inl (fun hh => .inr (.inl hh)))
        rintro v w7 ⟨G7, hx7, hR⟩
        simp (maxSteps := 999999) (disch := omega) only [↓sy1, sZ, readOK, Nat.reduceEqDiff, ↓reduceIte, oneOf, Nat.reduceAdd, Nat.reduceMul, reduceCtorEq]
        exact R_out ⟨G7, (hx03.trans (hx6.mono (fun x hh => .inr (.inl hh)))).trans hx7, .inr ⟨hc, j, o, rfl, hF, hR⟩⟩
      · have hc : setC F I.length j md ln = 2 := by unfold setC; rw [if_neg (by simpa using hl), if_neg (by omega)]
        simp (maxSteps := 999999) (disch := omega) only [↓sy1, sZ, readOK, Nat.reduceEqDiff, ↓reduceIte, oneOf, Nat.reduceAdd, Nat.reduceMul, reduceCtorEq, hmd, decide_true, and_self, Bool.not_true, show ¬(ln < 0) from by omega, show (65535 : Int) < ln from by omega, decide_false]
        exact R_out ⟨G3, hx03, .inl ⟨by rw [hc]; omega, by rw [hc], h3⟩⟩
    · have hc : setC F I.length j md ln = 2 := by unfold setC; rw [if_neg (by simpa using hl), if_neg (by omega)]
      simp (maxSteps := 999999) (disch := omega) only [↓sy1, sZ, readOK, Nat.reduceEqDiff, ↓reduceIte, oneOf, Nat.reduceAdd, Nat.reduceMul, reduceCtorEq, hmd, decide_true, and_self, Bool.not_true, show ln < 0 from by omega, decide_false]
      exact R_out ⟨G3, hx03, .inl ⟨by rw [hc]; omega, by rw [hc], h3⟩⟩
  · have hc : setC F I.length j md ln = 2 := by unfold setC; rw [if_neg (by simpa using hl), if_neg (by omega)]
    simp (maxSteps := 999999) (disch := omega) only [↓sy1, sZ, readOK, Nat.reduceEqDiff, ↓reduceIte, oneOf, Nat.reduceAdd, Nat.reduceMul, reduceCtorEq, hmd, dy, Bool.not_false]
    exact R_out ⟨G3, hx03, .inl ⟨by rw [hc]; omega, by rw [hc], h3⟩⟩
end
theorem rszB_self {b : List UInt8} : rszB b b.length = b := by simp [rszB]
section
variable {G : Gh} {κ μ m p lq came s : Nat} {w : World} {c : Csh} {P I : List Bool} {F : Nat -> Option Opn} {B : Nat -> List UInt8}
def rszC (F : Nat -> Option Opn) (k : Nat) (i n : Int) : Int := if lookC F k i ≠ 0 then lookC F k i else if n < 0 then 2 else if 70656 < n then 6 else 0
def ResizeR (G : Gh) (κ μ : Nat) (w : World) (s m p lq came : Nat) (c : Csh) (P I : List Bool) (F : Nat -> Option Opn) (B : Nat -> List UInt8) (i n : Int) (v : Value) : Prop :=
  (rszC F I.length i n ≠ 0 /\ v = .int .i64 (rszC F I.length i n) /\ Ino G κ μ w s m p lq came c P I F B) \/
  (rszC F I.length i n = 0 /\ ∃ (j : Nat) (o : Opn), i = j /\ F j = some o /\ TryR G κ μ w s m p lq came I.length c (freeN P + needN o.size) (needN n.toNat) (3 + needN n.toNat) (fun c' P' I' F' B' => I' = I /\ ∃ o', F' = upF F j (some o') /\ B' = upB B j (rszB (B j) n.toNat) /\ o'.size = n.toNat /\ o'.kind = o.kind /\ o'.mode = o.mode /\ o'.links = o.links /\ freeN P' + needN n.toNat = freeN P + needN o.size /\ ∃ L, L.length <= 2 + needN n.toNat /\ Dty L c c') (fun _ _ => True) (fun _ _ => True) v)
set_option maxRecDepth 20000 in
set_option maxHeartbeats 2000000 in
theorem iresize_spec (h : Ino G κ μ w s m p lq came c P I F B) {i n : Int} :
    Calls Tryz.prog 34 #[.pointer (some ⟨s, 0, none⟩), .int .i64 i, .int .i64 n] w (Ret fun v w' => ∃ G', Ext (KW κ μ) G w G' w' /\ ResizeR G' κ μ w' s m p lq came c P I F B i n v) := by
  obtain ⟨hne1, hne2, hne3⟩ := h.map.1.cache.ne
  have h6 := h.map.1.ne
  have hK0 : ¬ KW κ μ 0 := by unfold KW; omega
  have h0μ : ¬((0 : Nat) = μ) := by omega
  have hk6 : ∀ x, x = μ \/ x = 6 -> KW κ μ x := fun x hh => hh.elim .inl (fun hh => .inr (.inl hh))
  apply enter34
  apply R_in
  obtain ⟨G1, hb1, hx1⟩ := boxO G w (.pointer (some ⟨s, 0, none⟩)) 23 0 rfl
  simp (maxSteps := 999999) (disch := omega) only [↓sy1, sZ, readOK, Nat.reduceEqDiff, ↓reduceIte, oneOf, Nat.reduceAdd, Nat.reduceMul, reduceCtorEq, F34]
  generalize hw1 : w.alloc (.cells (Value.pointer (some ⟨s, 0, none⟩)).cells 23) = w1 at hb1 hx1 |-
  obtain ⟨G2, hn2, hx2⟩ := boxO G1 w1 (.int .i64 n) 3 0 rfl
  generalize hw2 : w1.alloc (.cells (Value.int .i64 n).cells 3) = w2 at hn2 hx2 |-
  have hb2 := hb1.ext hx2 id
  have h2 := (h.ext hx1 id id id).ext hx2 id id id
  simp (maxSteps := 999999) (disch := omega) only [↓sy1, sZ, readOK, Nat.reduceEqDiff, ↓reduceIte, oneOf, Nat.reduceAdd, Nat.reduceMul, reduceCtorEq, hb2.cell]
  refine call0 (h2.load (i := i)) ?_
  rintro _ w3 ⟨rfl, G3, hx3, h3⟩
  have hb3 := hb2.ext hx3 h0μ
  have hn3 := hn2.ext hx3 h0μ
  obtain ⟨w4, G4, st4, hq4, hoq4, hx4⟩ := openO G3 w3 (lookO F I.length i)
  have h4 := h3.ext hx4 id id id
  have hb4 := hb3.ext hx4 id
  have hn4 := hn3.ext hx4 id
  have hx04 : Ext (KW κ μ) G w G4 w4 := (((hx1.mono fE).trans (hx2.mono fE)).trans (hx3.mono (fun x hh => .inl hh))).trans (hx4.mono fE)
  rcases look_cases F I.length i with ⟨hl, hz⟩ | ⟨hl, j, o, rfl, hj1, hjk, hF, ho⟩
  · have hc : rszC F I.length i n = lookC F I.length i := if_pos hl
    simp (maxSteps := 999999) (disch := omega) only [↓sy1, sZ, readOK, Nat.reduceEqDiff, ↓reduceIte, oneOf, Nat.reduceAdd, Nat.reduceMul, reduceCtorEq, st4, hl, decide_false, not_false_eq_true, decide_true]
    exact R_out ⟨G4, hx04, .inl ⟨by rw [hc]; exact hl, by rw [hc], h4⟩⟩
  rw [ho] at st4 hq4
  rw [hl, ho]
  by_cases hn0 : n < 0
  · have hc : rszC F I.length j n = 2 := by unfold rszC; rw [if_neg (by simpa using hl), if_pos hn0]
    simp (maxSteps := 999999) (disch := omega) only [↓sy1, sZ, readOK, Nat.reduceEqDiff, ↓reduceIte, oneOf, Nat.reduceAdd, Nat.reduceMul, reduceCtorEq, st4, hn4.cell, dz, hn0]
    exact R_out ⟨G4, hx04, .inl ⟨by rw [hc]; omega, by rw [hc], h4⟩⟩
  by_cases hn1 : 70656 < n
  · have hc : rszC F I.length j n = 6 := by unfold rszC; rw [if_neg (by simpa using hl), if_neg hn0, if_pos hn1]
    simp (maxSteps := 999999) (disch := omega) only [↓sy1, sZ, readOK, Nat.reduceEqDiff, ↓reduceIte, oneOf, Nat.reduceAdd, Nat.reduceMul, reduceCtorEq, st4, hn4.cell, dz, hn0, hn1]
    exact R_out ⟨G4, hx04, .inl ⟨by rw [hc]; omega, by rw [hc], h4⟩⟩
  have hc : rszC F I.length j n = 0 := by unfold rszC; rw [if_neg (by simpa using hl), if_neg hn0, if_neg hn1]
  obtain ⟨n, rfl⟩ : ∃ k : Nat, n = k := ⟨n.toNat, by omega⟩
  obtain ⟨hmid, hok, hho⟩ := h4.file hF
  have hc3 := hq4.cell (j := 3) (by omega)
  rw [show o.cell 3 = o.size from rfl] at hc3
  by_cases hns : n = o.size
  · subst hns
    simp (maxSteps := 999999) (disch := omega) only [↓sy1, sZ, readOK, Nat.reduceEqDiff, ↓reduceIte, oneOf, Nat.reduceAdd, Nat.reduceMul, reduceCtorEq, st4, hn4.cell, dz, hn0, hn1, hc3, eq_self]
    refine R_out ⟨G4, hx04, .inr ⟨hc, j, o, rfl, hF, .inl ⟨rfl, c, P, I, F, B, h4, .refl c, rfl, ⟨rfl, o, ?_, ?_, ?_, rfl, rfl, rfl, ?_, [], by simp, .refl _ _⟩, trivial⟩⟩⟩
    · rw [<- hF, upF_self]
    · rw [Int.toNat_natCast, <- hho.len, rszB_self, upB_self]
    · rw [Int.toNat_natCast]
    · rw [Int.toNat_natCast]
  simp (maxSteps := 999999) (disch := omega) only [↓sy1, sZ, readOK, Nat.reduceEqDiff, ↓reduceIte, oneOf, Nat.reduceAdd, Nat.reduceMul, reduceCtorEq, st4, hn4.cell, dz, hn0, hn1, hc3, show ¬((n : Int) = (o.size : Int)) from by omega, hb4.cell]
  refine call0 (tryI (free := freeN P + needN o.size) (want := needN n) (most := 3 + needN n) (X := fun c' P' I' F' B' => I' = I /\ ∃ o', F' = upF F j (some o') /\ B' = upB B j (rszB (B j) n) /\ o'.size = n /\ o'.kind = o.kind /\ o'.mode = o.mode /\ o'.links = o.links /\ freeN P' + needN n = freeN P + needN o.size /\ ∃ L, L.length <= 2 + needN n /\ Dty L c c') (Z := fun _ _ => True) (Zf := fun _ _ => True) h4 (by kernel_rfl) (fun _ _ _ _ _ => trivial) (fun _ _ _ _ _ _ _ => trivial) ?_) ?_
  · intro G0 hx0 h0
    refine RetF.mono (resize1_spec h0.map h0.sto (hb4.ext hx0 id) (hn4.ext hx0 id) (hq4.keep hx0.growG id) (by rw [hx0.own _ hq4.lt, hx0.fixe _ hq4.lt id]; exact hoq4) hmid hok hho (by omega)) ?_ ?_
    · rintro _ w7 ⟨G7, c7, P7, o7, b7, hx7, h7, hf7, rfl, hsz, hkd, hmd, hln, hfr, hd7⟩
      have hol : o7.own.length = needN n := by rw [(hf7.ok j o7 upF_same).own_len, hsz]
      exact ⟨G7, c7, P7, I, _, _, hx7.mono hk6, h7, hf7, hd7.near, rfl, ⟨rfl, o7, rfl, rfl, hsz, hkd, hmd, hln, hfr, _, by simp [hol]; omega, hd7⟩, trivial⟩
    · intro w7 hS
      exact hS.z hk6
  rintro v w7 ⟨G7, hx7, hR⟩
  simp (maxSteps := 999999) (disch := omega) only [↓sy1, sZ, readOK, Nat.reduceEqDiff, ↓reduceIte, oneOf, Nat.reduceAdd, Nat.reduceMul, reduceCtorEq]
  exact R_out ⟨G7, hx04.trans hx7, .inr ⟨hc, j, o, rfl, hF, hR⟩⟩
def DropR (G : Gh) (κ μ : Nat) (w : World) (s m p lq came : Nat) (c : Csh) (P I : List Bool) (F : Nat -> Option Opn) (B : Nat -> List UInt8) (i : Int) (v : Value) : Prop :=
  (lookC F I.length i ≠ 0 /\ v = .int .i64 (lookC F I.length i) /\ Ino G κ μ w s m p lq came c P I F B) \/
  (lookC F I.length i = 0 /\ ∃ (j : Nat) (o : Opn), i = j /\ F j = some o /\ TryR G κ μ w s m p lq came I.length c 0 0 3 (fun c' P' I' F' B' => I' = I.set j false /\ F' = upF F j none /\ B' = B /\ freeN P' = freeN P + needN o.size /\ ∃ L, L.length <= 3 /\ Dty L c c') (fun _ _ => True) (fun _ _ => True) v)
set_option maxRecDepth 20000 in
set_option maxHeartbeats 2000000 in
theorem idrop_spec (h : Ino G κ μ w s m p lq came c P I F B) {i : Int} :
    Calls Tryz.prog 12 #[.pointer (some ⟨s, 0, none⟩), .int .i64 i] w (Ret fun v w' => ∃ G', Ext (KW κ μ) G w G' w' /\ DropR G' κ μ w' s m p lq came c P I F B i v) := by
  obtain ⟨hne1, hne2, hne3⟩ := h.map.1.cache.ne
  have h6 := h.map.1.ne
  have hK0 : ¬ KW κ μ 0 := by unfold KW; omega
  have h0μ : ¬((0 : Nat) = μ) := by omega
  have hk6 : ∀ x, x = μ \/ x = 6 -> KW κ μ x := fun x hh => hh.elim .inl (fun hh => .inr (.inl hh))
  apply enter12
  apply R_in
  obtain ⟨G1, hb1, hx1⟩ := boxO G w (.pointer (some ⟨s, 0, none⟩)) 23 0 rfl
  simp (maxSteps := 999999) (disch := omega) only [↓sy1, sZ, readOK, Nat.reduceEqDiff, ↓reduceIte, oneOf, Nat.reduceAdd, Nat.reduceMul, reduceCtorEq, F12]
  generalize hw1 : w.alloc (.cells (Value.pointer (some ⟨s, 0, none⟩)).cells 23) = w1 at hb1 hx1 |-
  obtain ⟨G2, hn2, hx2⟩ := boxO G1 w1 (.int .i64 i) 3 0 rfl
  generalize hw2 : w1.alloc (.cells (Value.int .i64 i).cells 3) = w2 at hn2 hx2 |-
  have hb2 := hb1.ext hx2 id
  have h2 := (h.ext hx1 id id id).ext hx2 id id id
  simp (maxSteps := 999999) (disch := omega) only [↓sy1, sZ, readOK, Nat.reduceEqDiff, ↓reduceIte, oneOf, Nat.reduceAdd, Nat.reduceMul, reduceCtorEq, hb2.cell, hn2.cell]
  refine call0 (h2.load (i := i)) ?_
  rintro _ w3 ⟨rfl, G3, hx3, h3⟩
  have hb3 := hb2.ext hx3 h0μ
  have hn3 := hn2.ext hx3 h0μ
  obtain ⟨w4, G4, st4, hq4, hoq4, hx4⟩ := openO G3 w3 (lookO F I.length i)
  have h4 := h3.ext hx4 id id id
  have hb4 := hb3.ext hx4 id
  have hn4 := hn3.ext hx4 id
  have hx04 : Ext (KW κ μ) G w G4 w4 := (((hx1.mono fE).trans (hx2.mono fE)).trans (hx3.mono (fun x hh => .inl hh))).trans (hx4.mono fE)
  rcases look_cases F I.length i with ⟨hl, hz⟩ | ⟨hl, j, o, rfl, hj1, hjk, hF, ho⟩
  · simp (maxSteps := 999999) (disch := omega) only [↓sy1, sZ, readOK, Nat.reduceEqDiff, ↓reduceIte, oneOf, Nat.reduceAdd, Nat.reduceMul, reduceCtorEq, st4, hl, decide_false, not_false_eq_true, decide_true]
    exact R_out ⟨G4, hx04, .inl ⟨hl, rfl, h4⟩⟩
  rw [ho] at st4 hq4
  rw [hl, ho]
  obtain ⟨hmid, hok, hho⟩ := h4.file hF
  simp (maxSteps := 999999) (disch := omega) only [↓sy1, sZ, readOK, Nat.reduceEqDiff, ↓reduceIte, oneOf, Nat.reduceAdd, Nat.reduceMul, reduceCtorEq, st4, dz, hb4.cell]
  refine call0 (tryI (free := 0) (want := 0) (most := 3) (X := fun c' P' I' F' B' => I' = I.set j false /\ F' = upF F j none /\ B' = B /\ freeN P' = freeN P + needN o.size /\ ∃ L, L.length <= 3 /\ Dty L c c') (Z := fun _ _ => True) (Zf := fun _ _ => True) h4 (by kernel_rfl) (fun _ _ _ _ _ => trivial) (fun _ _ _ _ _ _ _ => trivial) ?_) ?_
  · intro G0 hx0 h0
    refine RetF.mono (drop1_spec h0.map h0.sto (hb4.ext hx0 id) (hn4.ext hx0 id) (hq4.keep hx0.growG id) (by rw [hx0.own _ hq4.lt, hx0.fixe _ hq4.lt id]; exact hoq4) hmid hok hho) ?_ ?_
    · rintro _ w7 ⟨G7, c7, P7, hx7, h7, hf7, hfr, L, hL, hd7⟩
      exact ⟨G7, c7, P7, _, _, _, hx7.mono hk6, h7, hf7, hd7.near, by simp, ⟨rfl, rfl, rfl, hfr, L, hL, hd7⟩, trivial⟩
    · intro w7 hS
      exact hS.z hk6
  rintro v w7 ⟨G7, hx7, hR⟩
  simp (maxSteps := 999999) (disch := omega) only [↓sy1, sZ, readOK, Nat.reduceEqDiff, ↓reduceIte, oneOf, Nat.reduceAdd, Nat.reduceMul, reduceCtorEq]
  exact R_out ⟨G7, hx04.trans hx7, .inr ⟨hl, j, o, rfl, hF, hR⟩⟩
def wrC (F : Nat -> Option Opn) (k : Nat) (i pos : Int) (n : Nat) : Int := if lookC F k i ≠ 0 then lookC F k i else if pos < 0 then 2 else if 70656 < pos \/ 70656 - pos < n then 6 else 0
def WriteR (G : Gh) (κ μ : Nat) (w : World) (s m p lq came : Nat) (c : Csh) (P I : List Bool) (F : Nat -> Option Opn) (B : Nat -> List UInt8) (i pos : Int) (d : List UInt8) (v : Value) : Prop :=
  (wrC F I.length i pos d.length ≠ 0 /\ v = .int .i64 (wrC F I.length i pos d.length) /\ Ino G κ μ w s m p lq came c P I F B) \/
  (wrC F I.length i pos d.length = 0 /\ d = [] /\ v = .int .i64 0 /\ Ino G κ μ w s m p lq came c P I F B) \/
  (wrC F I.length i pos d.length = 0 /\ d ≠ [] /\ ∃ (j : Nat) (o : Opn) (n : Nat), i = j /\ pos = n /\ F j = some o /\ TryR G κ μ w s m p lq came I.length c (freeN P + needN o.size) (needN (max o.size (n + d.length))) (3 + needN (max o.size (n + d.length))) (fun c' P' I' F' B' => I' = I /\ ∃ o', F' = upF F j (some o') /\ B' = upB B j (wrB (B j) n d) /\ o'.size = max o.size (n + d.length) /\ o'.kind = o.kind /\ o'.mode = o.mode /\ o'.links = o.links /\ freeN P' + needN (max o.size (n + d.length)) = freeN P + needN o.size /\ ∃ L, L.length <= 2 + needN (max o.size (n + d.length)) /\ Dty L c c') (fun _ _ => True) (fun _ _ => True) v)
set_option maxRecDepth 20000 in
set_option maxHeartbeats 2000000 in
theorem iwrite_file_spec (h : Ino G κ μ w s m p lq came c P I F B) {i pos : Int} {bv : Value} {d : List UInt8} (hd : RowO (KW κ μ) G w bv d) (hdl : d.length <= 1000000000) (hpos : -9223372036854775808 <= pos /\ pos <= 9223372036854775807) :
    Calls Tryz.prog 26 #[.pointer (some ⟨s, 0, none⟩), .int .i64 i, .int .i64 pos, bv] w (Ret fun v w' => ∃ G', Ext (KW κ μ) G w G' w' /\ WriteR G' κ μ w' s m p lq came c P I F B i pos d v) := by
  obtain ⟨hne1, hne2, hne3⟩ := h.map.1.cache.ne
  have h6 := h.map.1.ne
  have hK0 : ¬ KW κ μ 0 := by unfold KW; omega
  have h0μ : ¬((0 : Nat) = μ) := by omega
  have h8μ : ¬(κ + μ + 8 = μ) := by omega
  have hdc := hd.1.isCell
  apply enter26
  apply R_in
  obtain ⟨G1, hb1, hx1⟩ := boxO G w (.pointer (some ⟨s, 0, none⟩)) 23 0 rfl
  simp (maxSteps := 999999) (disch := omega) only [↓sy1, sZ, readOK, Nat.reduceEqDiff, ↓reduceIte, oneOf, Nat.reduceAdd, Nat.reduceMul, reduceCtorEq, F26]
  generalize hw1 : w.alloc (.cells (Value.pointer (some ⟨s, 0, none⟩)).cells 23) = w1 at hb1 hx1 |-
  obtain ⟨G2, hn2, hx2⟩ := boxO G1 w1 (.int .i64 pos) 3 (κ + μ + 8) rfl
  generalize hw2 : w1.alloc (.cells (Value.int .i64 pos).cells 3) = w2 at hn2 hx2 |-
  obtain ⟨G3, hr3, hx3⟩ := boxO G2 w2 bv 74 (κ + μ + 8) hdc
  generalize hw3 : w2.alloc (.cells bv.cells 74) = w3 at hr3 hx3 |-
  have hb3 := (hb1.ext hx2 id).ext hx3 id
  have hn3 := hn2.ext hx3 id
  have hx03 := (hx1.trans hx2).trans hx3
  have h3 := h.ext hx03 id id id
  have hd3 := hd.ext hx03 (fun _ h => h.elim)
  simp (maxSteps := 999999) (disch := omega) only [↓sy1, sZ, readOK, Nat.reduceEqDiff, ↓reduceIte, oneOf, Nat.reduceAdd, Nat.reduceMul, reduceCtorEq, hb3.cell]
  refine call0 (h3.load (i := i)) ?_
  rintro _ w4 ⟨rfl, G4, hx4, h4⟩
  obtain ⟨w5, G5, st5, hq5, hoq5, hx5⟩ := openO G4 w4 (lookO F I.length i)
  have hx35 : Ext (fun x => x = μ) G3 w3 G5 w5 := hx4.trans (hx5.mono fE)
  have h5 := h4.ext hx5 id id id
  have hb5 := hb3.ext hx35 h0μ
  have hn5 := hn3.ext hx35 h8μ
  have hr5 := hr3.ext hx35 h8μ
  have hd5 := hd3.ext hx35 (fun x hh => .inl hh)
  have hx05 : Ext (KW κ μ) G w G5 w5 := (hx03.mono fE).trans (hx35.mono (fun x hh => .inl hh))
  have hlen : ∀ w', lenF w' 0 bv = some (.int .i64 d.length) := fun w' => hd.1.lenB w'
  rcases look_cases F I.length i with ⟨hl, hz⟩ | ⟨hl, j, o, rfl, hj1, hjk, hF, ho⟩
  · have hc : wrC F I.length i pos d.length = lookC F I.length i := if_pos hl
    simp (maxSteps := 999999) (disch := omega) only [↓sy1, sZ, readOK, Nat.reduceEqDiff, ↓reduceIte, oneOf, Nat.reduceAdd, Nat.reduceMul, reduceCtorEq, st5, hl, decide_false, not_false_eq_true, decide_true]
    exact R_out ⟨G5, hx05, .inl ⟨by rw [hc]; exact hl, by rw [hc], h5⟩⟩
  rw [ho] at st5 hq5
  rw [hl, ho]
  by_cases hn0 : pos < 0
  · have hc : wrC F I.length j pos d.length = 2 := by unfold wrC; rw [if_neg (by simpa using hl), if_pos hn0]
    simp (maxSteps := 999999) (disch := omega) only [↓sy1, sZ, readOK, Nat.reduceEqDiff, ↓reduceIte, oneOf, Nat.reduceAdd, Nat.reduceMul, reduceCtorEq, st5, hn5.cell, dz, hn0]
    exact R_out ⟨G5, hx05, .inl ⟨by rw [hc]; omega, by rw [hc], h5⟩⟩
  by_cases hn1 : 70656 < pos
  · have hc : wrC F I.length j pos d.length = 6 := by unfold wrC; rw [if_neg (by simpa using hl), if_neg hn0, if_pos (.inl hn1)]
    simp (maxSteps := 999999) (disch := omega) only [↓sy1, sZ, readOK, Nat.reduceEqDiff, ↓reduceIte, oneOf, Nat.reduceAdd, Nat.reduceMul, reduceCtorEq, st5, hn5.cell, dz, hn0, hn1]
    exact R_out ⟨G5, hx05, .inl ⟨by rw [hc]; omega, by rw [hc], h5⟩⟩
  by_cases hn2 : 70656 - pos < d.length
  · have hc : wrC F I.length j pos d.length = 6 := by unfold wrC; rw [if_neg (by simpa using hl), if_neg hn0, if_pos (.inr hn2)]
    simp (maxSteps := 999999) (disch := omega) only [↓sy1, sZ, readOK, Nat.reduceEqDiff, ↓reduceIte, oneOf, Nat.reduceAdd, Nat.reduceMul, reduceCtorEq, st5, hn5.cell, hr5.cell, hlen, dz, hn0, hn1, hn2]
    exact R_out ⟨G5, hx05, .inl ⟨by rw [hc]; omega, by rw [hc], h5⟩⟩
  have hc : wrC F I.length j pos d.length = 0 := by unfold wrC; rw [if_neg (by simpa using hl), if_neg hn0, if_neg (by omega)]
  obtain ⟨n, rfl⟩ : ∃ k : Nat, pos = k := ⟨pos.toNat, by omega⟩
  obtain ⟨hmid, hok, hho⟩ := h5.file hF
  by_cases hd0 : d = []
  · have hdl0 : d.length = 0 := by rw [hd0]; rfl
    simp (maxSteps := 999999) (disch := omega) only [↓sy1, sZ, readOK, Nat.reduceEqDiff, ↓reduceIte, oneOf, Nat.reduceAdd, Nat.reduceMul, reduceCtorEq, st5, hn5.cell, hr5.cell, hlen, dz, hn0, hn1, show (d.length : Int) = 0 from by omega, show ¬((70656 : Int) - (n : Int) < 0) from by omega]
    exact R_out ⟨G5, hx05, .inr (.inl ⟨hc, hd0, rfl, h5⟩)⟩
  have hdl0 : d.length ≠ 0 := fun hh => hd0 (List.eq_nil_of_length_eq_zero hh)
  simp (maxSteps := 999999) (disch := omega) only [↓sy1, sZ, readOK, Nat.reduceEqDiff, ↓reduceIte, oneOf, Nat.reduceAdd, Nat.reduceMul, reduceCtorEq, st5, hn5.cell, hr5.cell, hlen, dz, hn0, hn1, hn2, show ¬((d.length : Int) = 0) from by omega, hb5.cell]
  refine call0 (tryI (free := freeN P + needN o.size) (want := needN (max o.size (n + d.length))) (most := 3 + needN (max o.size (n + d.length))) (X := fun c' P' I' F' B' => I' = I /\ ∃ o', F' = upF F j (some o') /\ B' = upB B j (wrB (B j) n d) /\ o'.size = max o.size (n + d.length) /\ o'.kind = o.kind /\ o'.mode = o.mode /\ o'.links = o.links /\ freeN P' + needN (max o.size (n + d.length)) = freeN P + needN o.size /\ ∃ L, L.length <= 2 + needN (max o.size (n + d.length)) /\ Dty L c c') (Z := fun _ _ => True) (Zf := fun _ _ => True) h5 (by kernel_rfl) (fun _ _ _ _ _ => trivial) (fun _ _ _ _ _ _ _ => trivial) ?_) ?_
  · intro G0 hx0 h0
    refine RetF.mono (write1_spec h0.map h0.sto (hb5.ext hx0 id) (hq5.keep hx0.growG id) (by rw [hx0.own _ hq5.lt, hx0.fixe _ hq5.lt id]; exact hoq5) (hn5.ext hx0 id) (hr5.ext hx0 id) (hd5.ext hx0 (fun _ h => h.elim)) hmid hok hho (by omega)) ?_ ?_
    · rintro _ w7 ⟨G7, c7, P7, o7, b7, hx7, h7, hf7, rfl, hsz, hkd, hmd, hln, hfr, hd7⟩
      have hol : o7.own.length = needN (max o.size (n + d.length)) := by rw [(hf7.ok j o7 upF_same).own_len, hsz]
      exact ⟨G7, c7, P7, I, _, _, hx7, h7, hf7, hd7.near, rfl, ⟨rfl, o7, rfl, rfl, hsz, hkd, hmd, hln, hfr, _, by simp [hol]; omega, hd7⟩, trivial⟩
    · intro w7 hS
      exact hS.z (fun _ h => h)
  rintro v w7 ⟨G7, hx7, hR⟩
  simp (maxSteps := 999999) (disch := omega) only [↓sy1, sZ, readOK, Nat.reduceEqDiff, ↓reduceIte, oneOf, Nat.reduceAdd, Nat.reduceMul, reduceCtorEq]
  exact R_out ⟨G7, hx05.trans hx7, .inr (.inr ⟨hc, hd0, j, o, n, rfl, rfl, hF, hR⟩)⟩
end
theorem enterMake {Φ : Value -> World -> Prop} {Ψ : List PanicEntry -> World -> Prop} {w : World} (v0 v1 v2 : Value) (h : symS 30 Tryz.prog F25 ⟨fun e w => RP (e 6) (fun v w => Φ (.tuple #[v, e 7]) w) w, fun _ _ _ => False, fun e w => RP (e 6) (fun v w => Φ (.tuple #[v, e 7]) w) w, Ψ⟩ (upd (upd (upd env0 0 v0) 1 v1) 2 v2) w) : Calls Tryz.prog 25 #[v0, v1, v2] w (Out Φ Ψ) := calls_symP (args := [v0, v1, v2]) 30 6 7 Tryz.func25 (by kernel_rfl) (by kernel_rfl) (by kernel_rfl) Tryz.underlying3 (by kernel_rfl) (by kernel_rfl) (by simp) F25_eq h
theorem enterGet {Φ : Value -> World -> Prop} {Ψ : List PanicEntry -> World -> Prop} {w : World} (v0 v1 : Value) (h : symS 17 Tryz.prog F9 ⟨fun e w => RC 15 (e 4) (fun v w => Φ (.tuple #[v, e 5]) w) w, fun _ _ _ => False, fun e w => RC 15 (e 4) (fun v w => Φ (.tuple #[v, e 5]) w) w, Ψ⟩ (upd (upd env0 0 v0) 1 v1) w) : Calls Tryz.prog 9 #[v0, v1] w (Out Φ Ψ) := calls_symX (args := [v0, v1]) 17 4 5 15 Tryz.func9 (by kernel_rfl) (by kernel_rfl) (by kernel_rfl) Tryz.underlying35 (by kernel_rfl) (by kernel_rfl) (by kernel_rfl) (by simp) F9_eq h
section
variable {G : Gh} {κ μ m p lq came s : Nat} {w : World} {c : Csh} {P I : List Bool} {F : Nat -> Option Opn} {B : Nat -> List UInt8}
def mkC (kd md : Int) : Int := if (1 <= kd /\ kd <= 3) /\ 0 <= md /\ md <= 4095 then 0 else 2
def MakeR (G : Gh) (κ μ : Nat) (w : World) (s m p lq came : Nat) (c : Csh) (P I : List Bool) (F : Nat -> Option Opn) (B : Nat -> List UInt8) (kd md : Int) (v : Value) : Prop :=
  (mkC kd md ≠ 0 /\ v = .tuple #[.int .i64 0, .int .i64 2] /\ Ino G κ μ w s m p lq came c P I F B) \/
  (mkC kd md = 0 /\ v = .tuple #[.int .i64 (firstN I : Nat), .int .i64 0] /\ ∃ c', Ino G κ μ w s m p lq came c' P (I.set (firstN I) true) (upF F (firstN I) (some (Opn.new kd.toNat md.toNat (firstN I)))) (upB B (firstN I) []) /\ firstN I < I.length /\ Dty [1, 3 + firstN I / 8] c c') \/
  (mkC kd md = 0 /\ v = .tuple #[.int .i64 0, .int .i64 7] /\ Back G κ μ w s m p lq came I.length c /\ NoRoom c (freeN I) 1 3)
set_option maxRecDepth 20000 in
set_option maxHeartbeats 2000000 in
theorem imake_spec (h : Ino G κ μ w s m p lq came c P I F B) {kd md : Int} :
    Calls Tryz.prog 25 #[.pointer (some ⟨s, 0, none⟩), .int .i64 kd, .int .i64 md] w (Ret fun v w' => ∃ G', Ext (KW κ μ) G w G' w' /\ MakeR G' κ μ w' s m p lq came c P I F B kd md v) := by
  obtain ⟨hne1, hne2, hne3⟩ := h.map.1.cache.ne
  have h6 := h.map.1.ne
  have hK0 : ¬ KW κ μ 0 := by unfold KW; omega
  have h0μ : ¬((0 : Nat) = μ) := by omega
  have hnm : ¬(6 = μ) := by omega
  have hn7 : ¬(6 = κ + μ + 7) := by omega
  have hk6 : ∀ x, x = μ \/ x = 6 -> KW κ μ x := fun x hh => hh.elim .inl (fun hh => .inr (.inl hh))
  apply enterMake
  apply R_in
  obtain ⟨G1, hb1, hx1⟩ := boxO G w (.pointer (some ⟨s, 0, none⟩)) 23 0 rfl
  simp (maxSteps := 999999) (disch := omega) only [↓sy1, sZ, readOK, Nat.reduceEqDiff, ↓reduceIte, oneOf, Nat.reduceAdd, Nat.reduceMul, reduceCtorEq, F25]
  generalize hw1 : w.alloc (.cells (Value.pointer (some ⟨s, 0, none⟩)).cells 23) = w1 at hb1 hx1 |-
  obtain ⟨G2, hk2, hx2⟩ := boxO G1 w1 (.int .i64 kd) 29 0 rfl
  generalize hw2 : w1.alloc (.cells (Value.int .i64 kd).cells 29) = w2 at hk2 hx2 |-
  obtain ⟨G3, hm3, hx3⟩ := boxO G2 w2 (.int .i64 md) 3 0 rfl
  generalize hw3 : w2.alloc (.cells (Value.int .i64 md).cells 3) = w3 at hm3 hx3 |-
  obtain ⟨G4, hf4, hx4⟩ := boxO G3 w3 (.int .i64 0) 3 6 rfl
  generalize hw4 : w3.alloc (.cells (Value.int .i64 0).cells 3) = w4 at hf4 hx4 |-
  have hb4 := ((hb1.ext hx2 id).ext hx3 id).ext hx4 id
  have hk4 := (hk2.ext hx3 id).ext hx4 id
  have hm4 := hm3.ext hx4 id
  have hx04 := ((hx1.trans hx2).trans hx3).trans hx4
  have h4 := h.ext hx04 id id id
  have hxk : Ext (KW κ μ) G w G4 w4 := hx04.mono fE
  have bad : ∀ w' (_ : BoxAt G4 w' w3.heap.size 6 (.int .i64 0)) (_ : Ino G4 κ μ w' s m p lq came c P I F B) (_ : Ext (KW κ μ) G w G4 w'), mkC kd md = 2 -> RP (.pointer (some ⟨w3.heap.size, 0, none⟩)) (fun v w' => ∃ G', Ext (KW κ μ) G w G' w' /\ MakeR G' κ μ w' s m p lq came c P I F B kd md (.tuple #[v, .int .i64 2])) w' :=
    fun w' hf' hi' hx' hc => ⟨_, _, rfl, hf'.cell, G4, hx', .inl ⟨by rw [hc]; omega, rfl, hi'⟩⟩
  obtain ⟨w5, st5, hf5, hx5, hk5⟩ := hf4.store (u := .int .i64 0) rfl
  have hbad := fun hc => bad w5 hf5 (h4.ext hx5 h6.1 h6.2 (by omega)) (hxk.trans (hx5.mono (fun x hh => .inr (.inl hh)))) hc
  by_cases hkd0 : kd < 1
  · have hc : mkC kd md = 2 := if_neg (by omega)
    simp (maxSteps := 999999) (disch := omega) only [↓sy1, sZ, readOK, Nat.reduceEqDiff, ↓reduceIte, oneOf, Nat.reduceAdd, Nat.reduceMul, reduceCtorEq, hb4.cell, hk4.cell, hm4.cell, hkd0, dy, st5]
    exact R_out (hbad hc)
  by_cases hkd1 : 3 < kd
  · have hc : mkC kd md = 2 := if_neg (by omega)
    simp (maxSteps := 999999) (disch := omega) only [↓sy1, sZ, readOK, Nat.reduceEqDiff, ↓reduceIte, oneOf, Nat.reduceAdd, Nat.reduceMul, reduceCtorEq, hb4.cell, hk4.cell, hm4.cell, hkd0, hkd1, dy, st5]
    exact R_out (hbad hc)
  simp (maxSteps := 999999) (disch := omega) only [↓sy1, sZ, readOK, Nat.reduceEqDiff, ↓reduceIte, oneOf, Nat.reduceAdd, Nat.reduceMul, reduceCtorEq, hb4.cell, hk4.cell, hm4.cell, hkd0, hkd1, dy]
  refine call0 (imode_spec (n := md)) ?_
  rintro _ w6 ⟨rfl, hw6⟩
  subst w6
  by_cases hmd : 0 <= md /\ md <= 4095
  rotate_left
  · have hc : mkC kd md = 2 := if_neg (by omega)
    simp (maxSteps := 999999) (disch := omega) only [↓sy1, sZ, readOK, Nat.reduceEqDiff, ↓reduceIte, oneOf, Nat.reduceAdd, Nat.reduceMul, reduceCtorEq, hmd, decide_false, Bool.not_false, st5]
    exact R_out (hbad hc)
  have hc : mkC kd md = 0 := if_pos ⟨by omega, hmd⟩
  clear hbad bad
  obtain ⟨kd, rfl⟩ : ∃ n : Nat, kd = n := ⟨kd.toNat, by omega⟩
  obtain ⟨md, rfl⟩ : ∃ n : Nat, md = n := ⟨md.toNat, by omega⟩
  simp (maxSteps := 999999) (disch := omega) only [↓sy1, sZ, readOK, Nat.reduceEqDiff, ↓reduceIte, oneOf, Nat.reduceAdd, Nat.reduceMul, reduceCtorEq, hmd, decide_true, and_self, Bool.not_true, hb4.cell]
  refine call0 (tryI (free := freeN I) (want := 1) (most := 3) (X := fun c' P' I' F' B' => P' = P /\ I' = I.set (firstN I) true /\ F' = upF F (firstN I) (some (Opn.new kd md (firstN I))) /\ B' = upB B (firstN I) [] /\ firstN I < I.length /\ Dty [1, 3 + firstN I / 8] c c')
    (Z := fun G w => BoxAt G w w3.heap.size 6 (.int .i64 (firstN I : Nat))) (Zf := fun G w => ∃ v, BoxAt G w w3.heap.size 6 v) h4 (by kernel_rfl) (fun _ _ _ hz hx => hz.ext hx hn7) (fun _ _ _ o ho ⟨v, hz⟩ hx => ⟨v, hz.ext hx (by omega)⟩) ?_) ?_
  · intro G0 hx0 h0
    refine RetF.mono (make1_spec h0.map h0.sto h0.fs (hb4.ext hx0 id) (hf4.ext hx0 id) (hk4.ext hx0 id) (hm4.ext hx0 id) ⟨by omega, by omega⟩ (by omega)) ?_ ?_
    · rintro _ w7 ⟨G7, c7, hx7, h7, hf7, hlt, hbx, hd7⟩
      exact ⟨G7, c7, P, _, _, _, hx7.mono hk6, h7, hf7, hd7.near, by simp, ⟨rfl, rfl, rfl, rfl, hlt, hd7⟩, hbx⟩
    · rintro w7 ⟨G7, c7, L, hx7, h7, hd7, hn7', hz7⟩
      exact ⟨G7, c7, L, hx7.mono hk6, h7, hd7, hn7', hz7⟩
  rintro v w7 ⟨G7, hx7, hR⟩
  rcases hR with ⟨rfl, c7, P7, I7, F7, B7, hi7, _, _, ⟨rfl, rfl, rfl, rfl, hlt, hd7⟩, hbx⟩ | ⟨rfl, hback, hno, v7, hbx⟩
  · obtain ⟨w8, st8, hf8, hx8, hk8⟩ := hbx.store (u := .int .i64 (firstN I : Nat)) rfl
    simp (maxSteps := 999999) (disch := omega) only [↓sy1, sZ, readOK, Nat.reduceEqDiff, ↓reduceIte, oneOf, Nat.reduceAdd, Nat.reduceMul, reduceCtorEq, dz, hbx.cell, st8]
    refine R_out ⟨_, _, rfl, hf8.cell, G7, (hxk.trans hx7).trans (hx8.mono (fun x hh => .inr (.inl hh))), .inr (.inl ⟨hc, rfl, c7, ?_, hlt, hd7⟩)⟩
    exact hi7.ext hx8 h6.1 h6.2 (by omega)
  · obtain ⟨w8, st8, hf8, hx8, hk8⟩ := hbx.store (u := .int .i64 0) rfl
    obtain ⟨w9, st9, hf9, hx9, hk9⟩ := hf8.store (u := .int .i64 0) rfl
    simp (maxSteps := 999999) (disch := omega) only [↓sy1, sZ, readOK, Nat.reduceEqDiff, ↓reduceIte, oneOf, Nat.reduceAdd, Nat.reduceMul, reduceCtorEq, Int.reduceEq, decide_true, not_false_eq_true, decide_false, st8, hf8.cell, st9]
    refine R_out ⟨_, _, rfl, hf9.cell, G7, ((hxk.trans hx7).trans (hx8.mono (fun x hh => .inr (.inl hh)))).trans (hx9.mono (fun x hh => .inr (.inl hh))), .inr (.inr ⟨hc, rfl, ?_, hno⟩)⟩
    obtain ⟨c', P', I', F', B', h1, h2, h3⟩ := hback
    exact ⟨c', P', I', F', B', (h1.ext hx8 h6.1 h6.2 (by omega)).ext hx9 h6.1 h6.2 (by omega), h2, h3⟩
set_option maxRecDepth 20000 in
set_option maxHeartbeats 2000000 in
theorem iget_spec (h : Ino G κ μ w s m p lq came c P I F B) {i : Int} :
    Calls Tryz.prog 9 #[.pointer (some ⟨s, 0, none⟩), .int .i64 i] w (Ret fun v w' => v = .tuple #[.agg ((lookO F I.length i).cells.take 15).toArray, .int .i64 (lookC F I.length i)] /\ ∃ G', Ext (fun x => x = μ) G w G' w' /\ Ino G' κ μ w' s m p lq came c P I F B) := by
  obtain ⟨hne1, hne2, hne3⟩ := h.map.1.cache.ne
  have h6 := h.map.1.ne
  have hnm : ¬(6 = μ) := by omega
  apply enterGet
  apply R_in
  have hg0 : Grow w (w.alloc (.cells (Value.agg (Array.replicate 15 (.int .i64 0))).cells 35)) := (Keep.refl _ _).alloc _
  have hb0 := heap_alloc_new w (.cells (Value.agg (Array.replicate 15 (.int .i64 0))).cells 35)
  simp (maxSteps := 999999) (disch := omega) only [↓sy1, sZ, readOK, Nat.reduceEqDiff, ↓reduceIte, oneOf, Nat.reduceAdd, Nat.reduceMul, reduceCtorEq, F9]
  generalize w.alloc (.cells (Value.agg (Array.replicate 15 (.int .i64 0))).cells 35) = w1 at hg0 hb0 |-
  have hx1 : Ext0 G w (G.upto w.heap.size (fun _ => 6) (fun _ => 0)) w1 := .upto hg0 _ _
  have ho1 := upto_own (G := G) (o := 6) (f := 0) (Nat.le_refl w.heap.size)
  have h1 := h.ext hx1 id id id
  generalize (G.upto w.heap.size (fun _ => 6) (fun _ => 0)) = G1 at hx1 ho1 h1
  have hlt1 : w.heap.size < w1.heap.size := (Array.getElem?_eq_some_iff.1 hb0).1
  refine call0 (h1.load (i := i)) ?_
  rintro _ w2 ⟨rfl, G2, hx2, h2⟩
  have hb2 := hx2.heap hb0 (by rw [ho1.1]; exact hnm)
  have ho2 : G2.own w.heap.size = 6 /\ G2.fix w.heap.size = 0 := by rw [hx2.own _ hlt1, hx2.fixe _ hlt1 (by rw [ho1.1]; exact hnm)]; exact ho1
  obtain ⟨w3, G3, st3, hq3, hoq3, hx3⟩ := openO G2 w2 (lookO F I.length i)
  have hlt2 := hx2.size
  have hb3 := hx3.heap hb2 id
  have ho3 : G3.own w.heap.size = 6 /\ G3.fix w.heap.size = 0 := by rw [hx3.own _ (by omega), hx3.fixe _ (by omega) id]; exact ho2
  have h3 := h2.ext hx3 id id id
  have hl15 : ((lookO F I.length i).cells.take 15).length = 15 := by rw [List.length_take, Opn.cells_length]; rfl
  obtain ⟨w4, hs4, hb4, hk4⟩ := storeN_cells ((lookO F I.length i).cells.take 15) w3 _ 0 hb3 (by rw [hl15]; simp [Value.cells]) (fun u hu => Opn.cells_one _ u (List.mem_of_mem_take hu))
  have st4 : stnF w3 15 (.pointer (some ⟨w.heap.size, 0, none⟩)) (.agg ((lookO F I.length i).cells.take 15).toArray) = some (undef, w4) := by
    simp only [stnF, Value.cells, List.size_toArray, hl15, if_true, hs4, Option.map_some]
  have hx4 : Ext (fun x => x = 6) G3 w3 G3 w4 := .on0 hk4 ho3.1 ho3.2
  simp (maxSteps := 999999) (disch := omega) only [↓sy1, sZ, readOK, Nat.reduceEqDiff, ↓reduceIte, oneOf, Nat.reduceAdd, Nat.reduceMul, reduceCtorEq, st3, hq3.load15, st4]
  have hbig : w4.heap[w.heap.size]? = some (.cells ((lookO F I.length i).cells.take 15).toArray 35 (0, 0)) := by
    rw [hb4]
    simp only [List.take_zero, List.nil_append]
    rw [List.drop_eq_nil_of_le (by rw [hl15]; simp [Value.cells]), List.append_nil]
  have hl4 := loadN_cells (o := 0) hbig 15 0 (by simp [hl15])
  refine R_out ⟨_, _, rfl, hl4, ?_, G3, ((hx1.mono fE).trans (hx2.trans (hx3.mono fE))).then hk4 (Nat.le_refl _), h3.ext hx4 h6.1 h6.2 (by omega)⟩
  simp only [Nat.add_zero, List.drop_zero]
  rw [List.take_of_length_le (by rw [hl15]; exact Nat.le_refl _)]
theorem imap_spec (hs : StoreAt G w s m) : Calls Tryz.prog 10 #[.pointer (some ⟨s, 0, none⟩)] w (Ret fun v w' => v = .pointer (some ⟨m, 0, none⟩) /\ w' = w) := by
  apply enter10
  apply R_in
  simp (maxSteps := 999999) (disch := omega) only [↓sy1, sZ, readOK, Nat.reduceEqDiff, ↓reduceIte, oneOf, Nat.reduceAdd, Nat.reduceMul, reduceCtorEq, F10, hs.cell]
  exact R_out trivial
theorem inew_spec (G : Gh) (w : World) (m : Nat) : Calls Tryz.prog 21 #[.pointer (some ⟨m, 0, none⟩)] w (Ret fun v w' => ∃ s G', v = .tuple #[.pointer (some ⟨s, 0, none⟩), .int .i64 0] /\ w.heap.size <= s /\ StoreAt G' w' s m /\ Ext0 G w G' w') := by
  apply enter21
  apply R_in
  have hg : Grow w (w.alloc (.cells #[.pointer (some ⟨m, 0, none⟩)] 89)) := (Keep.refl _ _).alloc _
  have hb := heap_alloc_new w (.cells #[.pointer (some ⟨m, 0, none⟩)] 89)
  have ho := upto_own (G := G) (o := 0) (f := 0) (Nat.le_refl w.heap.size)
  simp (maxSteps := 999999) (disch := omega) only [↓sy1, sZ, readOK, Nat.reduceEqDiff, ↓reduceIte, oneOf, Nat.reduceAdd, Nat.reduceMul, reduceCtorEq, F21, fill_one, oneF_cell (v := .pointer (some ⟨m, 0, none⟩)) rfl]
  exact R_out ⟨w.heap.size, G.upto w.heap.size (fun _ => 0) (fun _ => 0), rfl, Nat.le_refl _, ⟨hb, ho.1⟩, .upto hg _ _⟩
end
def OwnR (ρ : Nat) (G : Gh) (v : Value) : Prop := ∀ b, v.ownBlock = some b -> G.own b = ρ /\ G.fix b = 0
theorem OwnR.ext {ρ B n : Nat} {K : Nat -> Prop} {G G' : Gh} {w w' : World} {v : Value} {t : TypeId} {xs : List Value} (h : OwnR ρ G v) (hx : Ext K G w G' w') (ho : w.ownsRow B t 1 v n xs) (hk : ¬ K ρ) : OwnR ρ G' v := fun b hb => by
  have hlt := (World.ownsRow.lt ho b hb).2
  rw [hx.own b hlt, hx.fixe b hlt (by rw [(h b hb).1]; exact hk)]
  exact h b hb
theorem ownR_keep {ρ B n : Nat} {K : Nat -> Prop} {G G' : Gh} {w w' : World} {v : Value} {t : TypeId} {xs : List Value} (h : OwnR ρ G v) (hx : Ext K G w G' w') (ho : w.ownsRow B t 1 v n xs) (hk : ¬ K ρ) : w'.ownsRow B t 1 v n xs :=
  own_keep ho hx.keep (fun b hb hh => hk (by rw [(h b hb).1] at hh; exact hh))
theorem ByteRow.slc {w : World} {g len cap a b : Nat} {kx ky : IntKind} {ls : List UInt8} (h : ByteRow w g ls) (hab : a <= b) (hb : b <= ls.length) (hbc : b <= cap) :
    ∃ v', slcV 1 (some ⟨g, 0, none⟩) len cap (some (.int kx (a : Int))) (some (.int ky (b : Int))) none = some v' /\ HasB w v' ((ls.drop a).take (b - a)) := by
  by_cases hlt : a < b
  · refine ⟨_, slcV_int rfl rfl hlt hbc, ?_⟩
    rw [Nat.zero_add]
    exact h.part (by omega) (by omega)
  · have hab2 : a = b := by omega
    subst hab2
    have he : (ls.drop a).take (a - a) = [] := by rw [Nat.sub_self]; rfl
    rw [he]
    refine ⟨.slice (if cap = a then some ⟨g, 0, none⟩ else some ⟨g, 0 + a, none⟩) 0 (cap - a), ?_, ?_⟩
    · simp only [slcV, bndV]
      rw [if_pos ⟨by omega, by omega⟩]
      simp only [Int.toNat_natCast]
      rw [if_pos ⟨by omega, by omega⟩]
      simp [add_lit]
    · split
      · exact .inl ⟨g, 0, 0, _, rfl, rfl, by omega, fun j u hj => by simp [bs] at hj⟩
      · exact .inl ⟨g, 0 + a, 0, _, rfl, rfl, by omega, fun j u hj => by simp [bs] at hj⟩
section rules
variable {k : Kont} {e : Env} {w : World} {l : List GOp} {d : Option Nat}
theorem appB_rule {ρ B n : Nat} {G : Gh} {x y : Operand} {v : Value} {ls ys : List UInt8} {ty : TypeId} (hx : ev e x = v) (hy : HasB w (ev e y) ys) (ho : w.ownsRow B 5 1 v n (bs ls)) (hr : OwnR ρ G v) (hn : n + ys.length <= 100000000) (hB : B <= w.heap.size)
    (hh : ∀ v' w', w'.ownsRow B 5 1 v' (n + ys.length) (bs (ls ++ ys)) -> OwnR ρ (G.upto w.heap.size (fun _ => ρ) (fun _ => 0)) v' -> Ext (fun c => c = ρ) G w (G.upto w.heap.size (fun _ => ρ) (fun _ => 0)) w' -> Keep (fun b => some b = v.ownBlock) w w' -> R (symOps Tryz.prog l k (updO e d v') w')) :
    R (symOps Tryz.prog (⟨d, .hard (H (.call { callee := .builtin .append, args := #[x, y], argTypes := #[74, 74] }) ty), none⟩ :: l) k e w) := by
  refine app_own2 elemB hx rfl ho hy (m := ys.length) (by rw [bs_length, Nat.mul_one]) (bs_cell _) (by omega) (by omega) hB ?_
  intro v' w' ho' hg' hb'
  have hka := Keep.grown hg'
  have hbb : bs ls ++ bs ys = bs (ls ++ ys) := by simp [bs]
  rw [hbb] at ho'
  refine hh v' w' ho' (fun b hb => ?_) (Ext.app hka hr) hka
  by_cases hlt : b < w.heap.size
  · have hrow : v.ownBlock = some b := by
      rcases hb' with h1 | h1
      · rw [<- h1]; exact hb
      · rw [h1] at hb
        have := Option.some.inj hb
        omega
    have := hr b hrow
    simp [Gh.upto, hlt]; exact this
  · exact upto_own (by omega)
end rules
def rdC (F : Nat -> Option Opn) (k : Nat) (i pos n : Int) : Int := if lookC F k i ≠ 0 then lookC F k i else if pos < 0 \/ n < 0 then 2 else 0
def rdB (F : Nat -> Option Opn) (B : Nat -> List UInt8) (k : Nat) (i pos n : Int) : List UInt8 := if rdC F k i pos n ≠ 0 then [] else ((B i.toNat).drop pos.toNat).take n.toNat
section
variable {G : Gh} {κ μ m p lq came s : Nat} {w : World} {c : Csh} {P I : List Bool} {F : Nat -> Option Opn} {B : Nat -> List UInt8}
set_option maxRecDepth 20000 in
set_option maxHeartbeats 4000000 in
theorem iread_spec {ρ : Nat} (h : Ino G κ μ w s m p lq came c P I F B) (hρ : ρ ≠ 0 /\ ρ ≠ κ /\ ρ ≠ μ) {i pos n : Int} (hpos : -9223372036854775808 <= pos /\ pos <= 9223372036854775807) (hn : -9223372036854775808 <= n /\ n <= 9223372036854775807) :
    Calls Tryz.prog 31 #[.pointer (some ⟨s, 0, none⟩), .int .i64 i, .int .i64 pos, .int .i64 n] w (Ret fun v w' => ∃ u G', v = .tuple #[u, .int .i64 (rdC F I.length i pos n)] /\ w'.ownsRow w.heap.size 5 1 u (rdB F B I.length i pos n).length (bs (rdB F B I.length i pos n)) /\ OwnR ρ G' u /\
      Ext (fun x => x = μ) G w G' w' /\ Ino G' κ μ w' s m p lq came c P I F B) := by
  obtain ⟨hne1, hne2, hne3⟩ := h.map.1.cache.ne
  obtain ⟨hρ0, hρκ, hρμ⟩ := hρ
  have h6 := h.map.1.ne
  have hnm : ¬(6 = μ) := by omega
  have h0μ : ¬((0 : Nat) = μ) := by omega
  have hnil : ∀ (G : Gh), OwnR ρ G (.slice none 0 0) := fun G b hb => by cases hb
  apply enter31
  apply R_in
  simp (maxSteps := 999999) (disch := omega) only [↓sy1, sZ, readOK, Nat.reduceEqDiff, ↓reduceIte, oneOf, Nat.reduceAdd, Nat.reduceMul, reduceCtorEq, F31]
  refine call0 (h.load (i := i)) ?_
  rintro _ w1 ⟨rfl, G1, hx1, h1⟩
  obtain ⟨w2, G2, st2, hq2, hoq2, hx2⟩ := openO G1 w1 (lookO F I.length i)
  have h2 := h1.ext hx2 id id id
  have hx02 := hx1.trans (hx2.mono fE)
  have fail : ∀ code, code ≠ 0 -> rdC F I.length i pos n = code -> ∃ u G', Value.tuple #[.slice none 0 0, .int .i64 code] = .tuple #[u, .int .i64 (rdC F I.length i pos n)] /\ w2.ownsRow w.heap.size 5 1 u (rdB F B I.length i pos n).length (bs (rdB F B I.length i pos n)) /\ OwnR ρ G' u /\
      Ext (fun x => x = μ) G w G' w2 /\ Ino G' κ μ w2 s m p lq came c P I F B := by
    intro code h0 hc
    have hb : rdB F B I.length i pos n = [] := if_pos (by rw [hc]; exact h0)
    exact ⟨_, G2, by rw [hc], by rw [hb]; exact World.ownsRow_nil _ _ _ _, hnil _, hx02, h2⟩
  rcases look_cases F I.length i with ⟨hl, hz⟩ | ⟨hl, j, o, rfl, hj1, hjk, hF, ho⟩
  · have hc : rdC F I.length i pos n = lookC F I.length i := if_pos hl
    simp (maxSteps := 999999) (disch := omega) only [↓sy1, sZ, readOK, Nat.reduceEqDiff, ↓reduceIte, oneOf, Nat.reduceAdd, Nat.reduceMul, reduceCtorEq, st2, hl, decide_false, not_false_eq_true, decide_true]
    exact R_out (fail _ hl hc)
  rw [ho] at st2 hq2
  rw [hl, ho]
  by_cases hp0 : pos < 0
  · have hc : rdC F I.length j pos n = 2 := by unfold rdC; rw [if_neg (by simpa using hl), if_pos (.inl hp0)]
    simp (maxSteps := 999999) (disch := omega) only [↓sy1, sZ, readOK, Nat.reduceEqDiff, ↓reduceIte, oneOf, Nat.reduceAdd, Nat.reduceMul, reduceCtorEq, st2, dz, hp0]
    exact R_out (fail 2 (by omega) hc)
  by_cases hn0 : n < 0
  · have hc : rdC F I.length j pos n = 2 := by unfold rdC; rw [if_neg (by simpa using hl), if_pos (.inr hn0)]
    simp (maxSteps := 999999) (disch := omega) only [↓sy1, sZ, readOK, Nat.reduceEqDiff, ↓reduceIte, oneOf, Nat.reduceAdd, Nat.reduceMul, reduceCtorEq, st2, dz, hp0, hn0]
    exact R_out (fail 2 (by omega) hc)
  clear fail
  have hc : rdC F I.length j pos n = 0 := by unfold rdC; rw [if_neg (by simpa using hl), if_neg (by omega)]
  obtain ⟨pos, rfl⟩ : ∃ k : Nat, pos = k := ⟨pos.toNat, by omega⟩
  obtain ⟨n, rfl⟩ : ∃ k : Nat, n = k := ⟨n.toNat, by omega⟩
  have hb : rdB F B I.length j pos n = ((B j).drop pos).take n := by unfold rdB; rw [if_neg (by rw [hc]; simp)]; rfl
  rw [hc, hb]
  obtain ⟨hmid, hok, hho⟩ := h2.file hF
  have hc3 := hq2.cell (j := 3) (by omega)
  rw [show o.cell 3 = o.size from rfl] at hc3
  have hos := hok.size
  have hbl := hho.len
  by_cases hge : o.size <= pos
  · have hb0 : ((B j).drop pos).take n = [] := by rw [List.drop_eq_nil_of_le (by omega)]; simp
    rw [hb0]
    simp (maxSteps := 999999) (disch := omega) only [↓sy1, sZ, readOK, Nat.reduceEqDiff, ↓reduceIte, oneOf, Nat.reduceAdd, Nat.reduceMul, reduceCtorEq, st2, dz, hp0, hn0, hc3, show (o.size : Int) <= (pos : Int) from by omega]
    exact R_out ⟨_, G2, rfl, World.ownsRow_nil _ _ _ _, hnil _, hx02, h2⟩
  simp (maxSteps := 999999) (disch := omega) only [↓sy1, sZ, readOK, Nat.reduceEqDiff, ↓reduceIte, oneOf, Nat.reduceAdd, Nat.reduceMul, reduceCtorEq, st2, dz, hp0, hn0, hc3, show ¬((o.size : Int) <= (pos : Int)) from by omega]
  generalize hend : pos + min n (o.size - pos) = fin
  refine min_rule (a := n) (b := ((o.size - pos : Nat) : Int)) (by simp only [upd_at, Nat.reduceEqDiff, reduceIte, ev_tmp, ev_const, List.map_cons, List.map_nil]) (by simp only [upd_at, Nat.reduceEqDiff, reduceIte, ev_tmp, ev_const, List.map_cons, List.map_nil]; exact congrArg (Value.int .i64) (by omega)) ?_
  have hmn : (if ((o.size - pos : Nat) : Int) < (n : Int) then ((o.size - pos : Nat) : Int) else (n : Int)) = ((min n (o.size - pos) : Nat) : Int) := by split <;> omega
  rw [hmn]
  have hquo : ((pos : Nat) : Int).tdiv 512 = ((pos / 512 : Nat) : Int) := rfl
  have hadd : ((pos : Nat) : Int) + ((min n (o.size - pos) : Nat) : Int) = ((fin : Nat) : Int) := by omega
  simp (maxSteps := 999999) (disch := omega) only [↓sy1, sZ, readOK, Nat.reduceEqDiff, ↓reduceIte, oneOf, Nat.reduceAdd, Nat.reduceMul, reduceCtorEq, hadd, hquo]
  have hfle : fin <= o.size := by omega
  have hs512 : o.size <= 512 * o.data.length := by rw [hok.data]; unfold pagesN; omega
  have hpl : ∀ x ∈ o.data, (c.page x).length = 512 := fun x hx => h2.map.1.cache.oks.plen (hmid.pg (by simp [Opn.own, hx])).2.2.1
  have hfl := hho.flat
  refine loop_rule (fun e w' => ∃ (k : Nat) (G' : Gh) (u : Value) (out : List UInt8), pos / 512 <= k /\ k <= 200 /\ e 0 = .pointer (some ⟨s, 0, none⟩) /\ e 2 = .int .i64 pos /\ e 10 = .pointer (some ⟨w1.heap.size, 0, none⟩) /\ e 12 = u /\ e 13 = .int .i64 fin /\ e 14 = .int .i64 k /\
      out = ((B j).drop pos).take (min (512 * k) fin - pos) /\ w'.ownsRow w.heap.size 5 1 u out.length (bs out) /\ OwnR ρ G' u /\ Ext (fun x => x = μ) G w G' w' /\ Ino G' κ μ w' s m p lq came c P I F B /\ OpnAt w' w1.heap.size o /\ (G'.own w1.heap.size = 6 /\ G'.fix w1.heap.size = 0)) (fun e _ => 200 - (intOf (e 14)).toNat)
    ⟨pos / 512, G2, .slice none 0 0, [], by omega, by omega, by simp [upd, updO, ev], by simp [upd, updO, ev], by simp [upd, updO, ev], by simp [upd, updO, ev], by simp [upd, updO, ev], by simp [upd, updO, ev], by rw [show min (512 * (pos / 512)) fin - pos = 0 from by omega]; rfl, World.ownsRow_nil _ _ _ _, hnil _, hx02, h2, hq2, hoq2⟩ ?_
  rintro e w3 ⟨k, G3, u, out, hk0, hk2, e0, e2, e10, e12, e13, e14, hout, hrow, hor, hx3, h3, hq3, hoq3⟩
  have houtl : out.length = min (min (512 * k) fin - pos) (o.size - pos) := by rw [hout, List.length_take, List.length_drop, hbl]
  by_cases hlt : 512 * k < fin
  · have hkd : k < o.data.length := by omega
    have hsp := slot_page (o := o) (k := k) hkd
    have hcell := hq3.cell (j := slotJ k) (slotJ_lt (by have := pagesN_le hos; rw [hok.data] at hkd; omega))
    generalize hnn : o.cell (slotJ k) = pg at hsp hcell
    obtain ⟨g1, g2, g3, g4⟩ := hmid.pg hsp.2
    have hkm : (k : Int) * 512 = ((512 * k : Nat) : Int) := by omega
    simp (maxSteps := 999999) (disch := omega) only [↓sy1, sZ, readOK, Nat.reduceEqDiff, ↓reduceIte, oneOf, Nat.reduceAdd, Nat.reduceMul, reduceCtorEq, F31_L0, e0, e2, e10, e12, e13, e14, hkm, show ((512 * k : Nat) : Int) < ((fin : Nat) : Int) from by omega, decide_true, h3.sto.cell]
    refine call0 (mcache_spec h3.map.1) ?_
    rintro _ w4 ⟨rfl, hw4⟩
    subst w4
    simp (maxSteps := 999999) (disch := omega) only [↓sy1, sZ, readOK, Nat.reduceEqDiff, ↓reduceIte, oneOf, Nat.reduceAdd, Nat.reduceMul, reduceCtorEq, e0, e2, e10, e12, e13, e14]
    refine call0 (slot_spec (q := w1.heap.size) (j := k) (by have := pagesN_le hos; rw [hok.data] at hkd; omega)) ?_
    rintro _ w4 ⟨rfl, hw4⟩
    subst w4
    simp (maxSteps := 999999) (disch := omega) only [↓sy1, sZ, readOK, Nat.reduceEqDiff, ↓reduceIte, oneOf, Nat.reduceAdd, Nat.reduceMul, reduceCtorEq, hcell]
    refine call0 (pread_spec h3.map.1 (n := pg) g3) ?_
    rintro _ w4 ⟨g, cap, G4, rfl, hcap, hgw, hpr, hog, hm4, hx4⟩
    have h4 : Ino G4 κ μ w4 s m p lq came c P I F B := ⟨⟨hm4, h3.map.2⟩, h3.sto.ext hx4 h0μ, h3.fs, h3.old⟩
    have hq4 : OpnAt w4 w1.heap.size o := hx4.heap hq3 (by rw [hoq3.1]; exact hnm)
    have hoq4 : G4.own w1.heap.size = 6 /\ G4.fix w1.heap.size = 0 := by rw [hx4.own _ hq3.lt, hx4.fixe _ hq3.lt (by rw [hoq3.1]; exact hnm)]; exact hoq3
    have hrow4 := ownR_keep hor hx4 hrow (fun hh => hρμ hh)
    have hor4 := hor.ext hx4 hrow (fun hh => hρμ hh)
    have hpgl := hpl pg (List.mem_of_getElem? hsp.1)
    simp (maxSteps := 999999) (disch := omega) only [↓sy1, sZ, readOK, Nat.reduceEqDiff, ↓reduceIte, oneOf, Nat.reduceAdd, Nat.reduceMul, reduceCtorEq, e0, e2, e10, e12, e13, e14, hkm]
    generalize ha : pos - 512 * k = a
    generalize hz : min (fin - 512 * k) 512 = z
    refine max_rule (a := (pos : Int) - ((512 * k : Nat) : Int)) (b := 0) (by simp only [upd_at, Nat.reduceEqDiff, reduceIte, ev_tmp, ev_const, List.map_cons, List.map_nil]) (by simp only [upd_at, Nat.reduceEqDiff, reduceIte, ev_tmp, ev_const, List.map_cons, List.map_nil]) ?_
    have hmx : (if (0 : Int) > (pos : Int) - ((512 * k : Nat) : Int) then (0 : Int) else (pos : Int) - ((512 * k : Nat) : Int)) = ((a : Nat) : Int) := by split <;> omega
    rw [hmx]
    simp (maxSteps := 999999) (disch := omega) only [↓sy1, sZ, readOK, Nat.reduceEqDiff, ↓reduceIte, oneOf, Nat.reduceAdd, Nat.reduceMul, reduceCtorEq, e0, e2, e10, e12, e13, e14, hkm]
    refine min_rule (a := ((fin : Nat) : Int) - ((512 * k : Nat) : Int)) (b := 512) (by simp only [upd_at, Nat.reduceEqDiff, reduceIte, ev_tmp, ev_const, List.map_cons, List.map_nil]) (by simp only [upd_at, Nat.reduceEqDiff, reduceIte, ev_tmp, ev_const, List.map_cons, List.map_nil]) ?_
    have hmz : (if (512 : Int) < ((fin : Nat) : Int) - ((512 * k : Nat) : Int) then (512 : Int) else ((fin : Nat) : Int) - ((512 * k : Nat) : Int)) = ((z : Nat) : Int) := by split <;> omega
    rw [hmz]
    have haz : a <= z := by omega
    obtain ⟨sv, hsl, hpart⟩ := hpr.slc (len := 512) (cap := cap) (kx := .i64) (ky := .i64) haz (by rw [hpgl]; omega) (by omega)
    generalize hys : ((c.page pg).drop a).take (z - a) = ys at hpart
    have hysl : ys.length = z - a := by rw [<- hys, List.length_take, List.length_drop, hpgl]; omega
    have hcont : out ++ ys = ((B j).drop pos).take (min (512 * (k + 1)) fin - pos) := by
      have hfp := flat_part hpl hsp.1
      rw [hfl] at hfp
      have h1 : ys = ((B j).drop (512 * k + a)).take (z - a) := by
        rw [<- hys, <- hfp, List.drop_take, List.drop_drop, List.take_take, List.drop_append_of_le_length (by omega), List.take_append_of_le_length (by rw [List.length_drop]; omega), Nat.min_eq_left (by omega)]
      rw [h1, hout, show 512 * k + a = pos + (min (512 * k) fin - pos) from by omega, <- List.drop_drop, <- List.take_add]
      congr 1; omega
    simp (maxSteps := 999999) (disch := omega) only [↓sy1, sZ, readOK, Nat.reduceEqDiff, ↓reduceIte, oneOf, Nat.reduceAdd, Nat.reduceMul, reduceCtorEq, hsl, e12]
    refine appB_rule (ρ := ρ) (G := G4) (ys := ys) (by simp only [upd_at, Nat.reduceEqDiff, reduceIte, ev_tmp, ev_const, List.map_cons, List.map_nil, e12]) (by simp only [upd_at, Nat.reduceEqDiff, reduceIte, ev_tmp, ev_const, List.map_cons, List.map_nil]; exact hpart) hrow4 hor4 (by omega) (by have := hx3.size; have := hx4.size; omega) ?_
    intro u5 w5 hrow5 hor5 hx5 hk5
    have hxρ : ¬(0 : Nat) = ρ := fun hh => hρ0 hh.symm
    have h5 := h4.ext hx5 (fun hh => hρκ hh.symm) (fun hh => hρμ hh.symm) hxρ
    have hlt4 := hq4.lt
    have hrb : ∀ b, u.ownBlock = some b -> w.heap.size <= b := fun b hb => (World.ownsRow.lt hrow4 b hb).1
    have hx05 := Ext.past (μ := ρ) (hx3.trans hx4) hk5 hrb
    have hneq : ¬(some w1.heap.size = u.ownBlock) := fun hh => by
      have h1 := (World.ownsRow.lt hrow4 _ hh.symm)
      rcases hrow4 with ⟨_, ⟨hz1, hz2⟩ | ⟨gg, cc, cur, hz1, _, hz3, _⟩⟩
      · rw [hz1] at hh; cases hh
      · rw [hz1] at hh
        have hgg : w1.heap.size = gg := Option.some.inj hh
        subst hgg
        have h7 := (Obj.cells.inj (Option.some.inj (hq4.symm.trans hz3))).2.1
        exact absurd h7 (by decide)
    have hq5 := hq4.keep hk5 hneq
    have hoq5 : (G4.upto w4.heap.size (fun _ => ρ) (fun _ => 0)).own w1.heap.size = 6 /\ (G4.upto w4.heap.size (fun _ => ρ) (fun _ => 0)).fix w1.heap.size = 0 := by simp [Gh.upto, hlt4]; exact hoq4
    rw [hysl] at hrow5
    simp (maxSteps := 999999) (disch := omega) only [↓sy1, sZ, readOK, Nat.reduceEqDiff, ↓reduceIte, oneOf, Nat.reduceAdd, Nat.reduceMul, reduceCtorEq, e0, e2, e10, e12, e13, e14]
    refine R_out ⟨⟨k + 1, _, u5, out ++ ys, by omega, by omega, rfl, rfl, hcont, ?_, hor5, hx05, h5, hq5, hoq5⟩, by simp only [intOf]; omega⟩
    rw [List.length_append, hysl]; exact hrow5
  · have hm : min (512 * k) fin - pos = min n (o.size - pos) := by omega
    rw [hm] at hout
    have hres : ((B j).drop pos).take n = out := by
      rw [hout]
      by_cases hno : n <= o.size - pos
      · rw [Nat.min_eq_left hno]
      · rw [Nat.min_eq_right (by omega), List.take_of_length_le (by rw [List.length_drop]; omega), List.take_of_length_le (by rw [List.length_drop]; omega)]
    rw [hres]
    have hkm : (k : Int) * 512 = ((512 * k : Nat) : Int) := by omega
    simp (maxSteps := 999999) (disch := omega) only [↓sy1, sZ, readOK, Nat.reduceEqDiff, ↓reduceIte, oneOf, Nat.reduceAdd, Nat.reduceMul, reduceCtorEq, F31_L0, e0, e2, e10, e12, e13, e14, hkm, show ¬(((512 * k : Nat) : Int) < ((fin : Nat) : Int)) from by omega, decide_false]
    exact R_out ⟨u, G3, rfl, hrow, hor, hx3, h3⟩
end
end Go.Proofs.YtddiikeepncakabGreat
namespace Go.Proofs.YtddiikeepncakabGreat
open Go
set_option maxRecDepth 100000
noncomputable section
variable {Φ : Value -> World -> Prop} {Ψ : List PanicEntry -> World -> Prop} {w : World}
def F14 : SCode := (.seq (.ops [oO 4 (.mv sN), oO 5 (.mv (kI 0))]) (.seq (.ops [mM 12 0, mM 13 1, oO 14 (.call 41 [tT 12, tT 13]), mM 11 14, eX 15 11 0, eX 16 11 1, oO 6 (.alloc 85 (.agg (Array.replicate 144 (.int .i64 0)))), ⟨none, (.stn 144 (tT 6) (tT 15)), none⟩, mM 7 16]) (.seq (.seq (.ops [mM 17 7, oO 18 (.bin .neq (tT 17) (kI 0))]) (.cond (tT 18) (.seq (.ops [mM 19 7, oO 4 (.mv sN), mM 5 19]) .ret) .skip)) (.seq (.ops [oO 8 (.alloc 47 (.slice none 0 0))]) (.seq (.seq (.ops [oO 20 (.ldn 144 (tT 6)), oO 21 (.call 49 [tT 20])]) (.block 0 (.raw (rawOf Tryz.f14 0)))) (.seq (.seq (.ops [oO 27 (.fa 0 (tT 6)), oO 28 (.fa 4 (tT 27)), oO 29 (.iaa 11 1 (tT 28) (kI 10)), lD 30 29, mM 10 30]) (.seq (.ops [mM 31 10, oO 32 (.bin .neq (tT 31) (kI 0))]) (.cond (tT 32) (.ops [lD 33 8, mM 34 10, oO 35 (.bsl 3 #[(.int .i64 0)] 1 [(0, (1, (tT 34)))]), oO 36 (.hard (H (.call (Go.Call.mk (.builtin .append) #[tT 33, tT 35] #[47, 47])) 47)), ⟨none, (.st (tT 8) (tT 36)), none⟩]) .skip))) (.seq (.ops [lD 37 8, mM 4 37, oO 5 (.mv (kI 0))]) .ret)))))))
end
end Go.Proofs.YtddiikeepncakabGreat
namespace Go.Proofs.YtddiikeepncakabGreat
open Go Go.RowKit
set_option linter.unusedSimpArgs false
attribute [local go_sem] Oper.semAt_some
theorem iall_spec {w : World} {o : Opn} : Calls Tryz.prog 49 #[.agg o.cells.toArray] w (Ret fun v w' => v = .func (.func 93) #[] #[.pointer (some ⟨w.heap.size, 0, none⟩)] /\ w' = w.alloc (.cells (Value.agg o.cells.toArray).cells 85)) := by
  apply enter49
  apply R_in
  simp (maxSteps := 999999) (disch := omega) only [↓sy1, sZ, readOK, Nat.reduceEqDiff, ↓reduceIte, oneOf, Nat.reduceAdd, Nat.reduceMul, reduceCtorEq, F49]
  exact R_out trivial
theorem ipages_in {n k : Nat} {w : World} (hk : k < 1000000000) : CallsIn Fence.wide n Tryz.prog 48 #[.int .i64 k] w fun e w' => e = .returned (.int .i64 (pagesN k : Nat)) /\ w' = w :=
  callsIn_wide.2 ((ipages_spec hk).mono fun e w' he => by
    cases e with
    | returned v => exact ⟨congrArg _ he.1, he.2⟩
    | panicked c => exact he.elim
    | outgrown => exact he.elim)
theorem slot_in {n q j : Nat} {w : World} (hj : j < 138) : CallsIn Fence.wide n Tryz.prog 70 #[.pointer (some ⟨q, 0, none⟩), .int .i64 j] w fun e w' => e = .returned (.pointer (some ⟨q, slotJ j, none⟩)) /\ w' = w :=
  callsIn_wide.2 ((slot_spec hj).mono fun e w' he => by
    cases e with
    | returned v => exact ⟨congrArg _ he.1, he.2⟩
    | panicked c => exact he.elim
    | outgrown => exact he.elim)
set_option maxRecDepth 100000 in
set_option maxHeartbeats 1000000 in
theorem all1_in (n l q : Nat) (o : Opn) (hd : o.data.length = pagesN o.size) (hs : o.size <= 70656) (J Jx : List Nat -> World -> Prop)
    (hY : ∀ pre x W, J pre W -> pre.length < o.data.length -> YieldAt Fence.wide (n - 1) Tryz.prog l #[.int .i64 ((x : Nat) : Int)] W fun e W' =>
      (e = .returned (.bool true) /\ J (pre ++ [x]) W' /\ (∀ ob, W.heap[q]? = some ob -> W'.heap[q]? = some ob)) \/ (e = .returned (.bool false) /\ Jx (pre ++ [x]) W'))
    (W : World) (hq : OpnAt W q o) (h0 : J [] W) :
    CallsIn Fence.wide n Tryz.prog 93 #[.func (.yield l) #[] #[], .pointer (some ⟨q, 0, none⟩)] W fun e W' => (∃ v, e = .returned v) /\
      ((∃ ys, ys = o.data /\ J ys W') \/ (∃ pre, pre <+: o.data /\ Jx pre W')) := by
  refine callsIn_of_wp Tryz.func93 rfl trivial ?_ rfl
  simp only [Tryz.ntmps93, List.size_toArray, List.length_cons, List.length_nil, Nat.reduceAdd, Nat.reduceSub, Array.replicate_succ, Array.replicate_zero, List.push_toArray, List.append_toArray, List.nil_append, List.cons_append]
  have hc3 := hq.cell (j := 3) (by omega)
  rw [show o.cell 3 = o.size from rfl] at hc3
  gi_wp2_with (refine ⟨trivial, fun h => absurd h (by decide), ?_⟩; gi_at_call 48; refine (ipages_in (k := o.size) (by omega)).mono ?_; rintro e w' ⟨rfl, rfl⟩)
  gi_loopw [8] (fun v wr => ∃ k : Nat, v = .int .i64 ((k : Nat) : Int) /\ k <= pagesN o.size /\ OpnAt wr q o /\ J (o.data.take k) wr)
    (fun v wr => pagesN o.size - (intOf v).toNat)
  case atStart =>
    exact ⟨0, rfl, Nat.zero_le _, hq, h0⟩
  case round =>
    obtain ⟨k, rfl, hk, hqr, hJ⟩ := hrel
    have hpm := pagesN_le hs
    by_cases hlt : k < pagesN o.size
    · have hlt' : ((k : Nat) : Int) < ((pagesN o.size : Nat) : Int) := by omega
      have hcell := hqr.cell (j := slotJ k) (slotJ_lt (by omega))
      have hkd : k < o.data.length := by omega
      rw [o.cell_slot, List.getD_eq_getElem?_getD, List.getElem?_eq_getElem hkd, Option.getD_some] at hcell
      have htk : o.data.take k ++ [o.data[k]] = o.data.take (k + 1) := by rw [List.take_succ_eq_append_getElem hkd]
      obtain ⟨fn, tmps, assign, body, hy, hR⟩ := hY (o.data.take k) o.data[k] wr hJ (by rw [List.length_take]; omega)
      gi_wp2_with (refine ⟨trivial, fun h => absurd h (by decide), ?_⟩; gi_at_call 70; refine (slot_in (j := k) (by omega)).mono ?_; rintro e w' ⟨rfl, rfl⟩)
      refine ⟨fun h => absurd h (by decide), hR.mono ?_⟩
      rintro e W3 (⟨rfl, hJ3, hk3⟩ | ⟨rfl, hJx3⟩)
      · gi_wp2
        go_roundw
        case rel => exact ⟨k + 1, by simp, by omega, hk3 _ hqr, by rw [htk] at hJ3; exact hJ3⟩
        case measure => simp [intOf]; omega
      · gi_wp2
        refine bodyPost_ret (results_none rfl _ _ _) rfl ?_
        exact ⟨⟨_, rfl⟩, .inr ⟨o.data.take (k + 1), List.take_prefix _ _, by rw [htk] at hJx3; exact hJx3⟩⟩
    · have hlt' : ¬((k : Nat) : Int) < ((pagesN o.size : Nat) : Int) := by omega
      have hke : k = o.data.length := by omega
      rw [hke, List.take_length] at hJ
      gi_wp2
      go_end0
      exact ⟨⟨_, rfl⟩, .inl hJ⟩
theorem sym_step {n N : Nat} {P : Program} {c1 c2 : Code} {s : SCode} {a : Act} {e : Env} {w : World} {Q : Exit -> Act -> World -> Prop} (hfit : fits n c1 = true) (hs : toS P c1 = s) (hr : Rel n a e)
    (hk : symS n P s ⟨fun e w => ∀ a, Rel n a e -> c2.wpIn Fence.wide N P Q a w, fun _ _ _ => False, fun e w => ∀ a, Rel n a e -> Q .ret a w, fun _ _ => False⟩ e w) : (Code.seq c1 c2).wpIn Fence.wide N P Q a w := by
  refine wpIn_seq (wpIn_wide.2 (Code.wp_mono (fun ex a' w' hl => ?_) (symS_sound c1 hfit _ a e w hr (hs ▸ hk))))
  cases ex with
  | normal => obtain ⟨e', h1, h2⟩ := hl; exact h2 a' h1
  | ret => obtain ⟨e', h1, h2⟩ := hl; exact h2 a' h1
  | exit i => obtain ⟨_, _, h⟩ := hl; exact h.elim
  | panic c => exact hl.2.elim
  | goto l => exact (hl : False).elim
  | outgrown => exact (hl : False).elim
theorem rel38 {a : Act} {e : Env} (h : Rel 38 a e) : a = { tmps := #[e 0, e 1, e 2, e 3, e 4, e 5, e 6, e 7, e 8, e 9, e 10, e 11, e 12, e 13, e 14, e 15, e 16, e 17, e 18, e 19, e 20, e 21, e 22, e 23, e 24, e 25, e 26, e 27, e 28, e 29, e 30, e 31, e 32, e 33, e 34, e 35, e 36, e 37], defers := [] } := by
  obtain ⟨tmps, defers⟩ := a
  have h1 : defers = [] := h.defers
  subst h1
  have h2 : #[e 0, e 1, e 2, e 3, e 4, e 5, e 6, e 7, e 8, e 9, e 10, e 11, e 12, e 13, e 14, e 15, e 16, e 17, e 18, e 19, e 20, e 21, e 22, e 23, e 24, e 25, e 26, e 27, e 28, e 29, e 30, e 31, e 32, e 33, e 34, e 35, e 36, e 37] = ((List.range 38).map e).toArray := rfl
  rw [h2]
  have h3 : tmps.size = 38 := h.size
  have h4 : tmps = ((List.range 38).map e).toArray := by
    refine Array.ext (by simp [h3]) fun i hi hi' => ?_
    have h5 : tmps.getD i undef = e i := h.val i
    rw [Array.getD_eq_getD_getElem?, Array.getElem?_eq_getElem hi] at h5
    simpa using h5
  rw [h4]
noncomputable def sgA : SCode := match F14 with | .seq a _ => a | c => c
noncomputable def sgB : SCode := match F14 with | .seq _ (.seq a _) => a | c => c
noncomputable def sgC : SCode := match F14 with | .seq _ (.seq _ (.seq a _)) => a | c => c
noncomputable def sgD : SCode := match F14 with | .seq _ (.seq _ (.seq _ (.seq a _))) => a | c => c
noncomputable def sgE : SCode := match F14 with | .seq _ (.seq _ (.seq _ (.seq _ (.seq (.seq a _) _)))) => a | c => c
theorem infoInt : (Tryz.prog.info? 3).map (fun i => (i.zero, i.size, i.bytes)) = some (some (.int .i64 0), 1, 8) := by kernel_rfl
def pgB (F : Nat -> Option Opn) (k : Nat) (i : Int) : List Int := if lookC F k i ≠ 0 then [] else (lookO F k i).own.map fun n => ((n : Nat) : Int)
section
variable {G : Gh} {κ μ m p lq came s : Nat} {w : World} {c : Csh} {P I : List Bool} {F : Nat -> Option Opn} {B : Nat -> List UInt8}
set_option maxRecDepth 100000 in
set_option maxHeartbeats 4000000 in
theorem ipages_in_spec {ρ : Nat} (h : Ino G κ μ w s m p lq came c P I F B) (hρ : ρ ≠ 0 /\ ρ ≠ κ /\ ρ ≠ μ) {i : Int} :
    CallsIn Fence.wide 10 Tryz.prog 14 #[.pointer (some ⟨s, 0, none⟩), .int .i64 i] w fun en w' => ∃ u G', en = .returned (.tuple #[u, .int .i64 (lookC F I.length i)]) /\ w'.ownsRow w.heap.size 3 1 u (pgB F I.length i).length (ints (pgB F I.length i)) /\ OwnR ρ G' u /\
      Ext (fun x => x = μ) G w G' w' /\ Ino G' κ μ w' s m p lq came c P I F B := by
  obtain ⟨hne1, hne2, hne3⟩ := h.map.1.cache.ne
  obtain ⟨hρ0, hρκ, hρμ⟩ := hρ
  have h6 := h.map.1.ne
  have hnm : ¬(6 = μ) := by omega
  have h0μ : ¬((0 : Nat) = μ) := by omega
  have hnil : ∀ (G : Gh), OwnR ρ G (.slice none 0 0) := fun G b hb => by cases hb
  refine callsIn_of_wp_marks Tryz.func14 rfl trivial ?_
  have hinit : Rel 38 { tmps := #[.pointer (some ⟨s, 0, none⟩), .int .i64 i] ++ Array.replicate (Tryz.f14.ntmps - #[Value.pointer (some ⟨s, 0, none⟩), .int .i64 i].size) undef, defers := [] } (upd (upd env0 0 (.pointer (some ⟨s, 0, none⟩))) 1 (.int .i64 i)) := by
    have he : (upd (upd env0 0 (.pointer (some ⟨s, 0, none⟩))) 1 (.int .i64 i)) = initEnv [.pointer (some ⟨s, 0, none⟩), .int .i64 i] 0 env0 := rfl
    rw [he]
    refine ⟨by simp [Tryz.ntmps14], rfl, fun t => ?_⟩
    have hga := getD_args [.pointer (some ⟨s, 0, none⟩), .int .i64 i] (Tryz.f14.ntmps - #[Value.pointer (some ⟨s, 0, none⟩), .int .i64 i].size) t
    refine hga.trans ?_
    simp only [initEnv_get, Nat.zero_add, Nat.zero_le, true_and, Nat.sub_zero]
    split
    · rfl
    · rename_i hlt
      rw [List.getD_eq_getElem?_getD, List.getElem?_eq_none (by omega)]; rfl
  refine sym_step (s := sgA) (by kernel_rfl) (by kernel_rfl) hinit ?_
  apply R_in
  simp (maxSteps := 999999) (disch := omega) only [↓sy1, sZ, readOK, Nat.reduceEqDiff, ↓reduceIte, oneOf, Nat.reduceAdd, Nat.reduceMul, reduceCtorEq, sgA, F14]
  refine R_out fun a1 ha1 => ?_
  refine sym_step (s := sgB) (by kernel_rfl) (by kernel_rfl) ha1 ?_
  apply R_in
  simp (maxSteps := 999999) (disch := omega) only [↓sy1, sZ, readOK, Nat.reduceEqDiff, ↓reduceIte, oneOf, Nat.reduceAdd, Nat.reduceMul, reduceCtorEq, sgB, F14]
  refine call0 (h.load (i := i)) ?_
  rintro _ w1 ⟨rfl, G1, hx1, h1⟩
  obtain ⟨w2, G2, st2, hq2, hoq2, hx2⟩ := openO G1 w1 (lookO F I.length i)
  have h2 := h1.ext hx2 id id id
  have hx02 := hx1.trans (hx2.mono fE)
  simp (maxSteps := 999999) (disch := omega) only [↓sy1, sZ, readOK, Nat.reduceEqDiff, ↓reduceIte, oneOf, Nat.reduceAdd, Nat.reduceMul, reduceCtorEq, st2]
  refine R_out fun a2 ha2 => ?_
  refine sym_step (s := sgC) (by kernel_rfl) (by kernel_rfl) ha2 ?_
  apply R_in
  rcases look_cases F I.length i with ⟨hl, hz⟩ | ⟨hl, j, o, rfl, hj1, hjk, hF, ho⟩
  · have hpg : pgB F I.length i = [] := if_pos hl
    simp (maxSteps := 999999) (disch := omega) only [↓sy1, sZ, readOK, Nat.reduceEqDiff, ↓reduceIte, oneOf, Nat.reduceAdd, Nat.reduceMul, reduceCtorEq, sgC, F14, hl, decide_false, not_false_eq_true, decide_true]
    refine R_out fun a3 ha3 => ?_
    have ha := rel38 ha3
    simp only [upd, env0, Nat.reduceEqDiff, if_false, if_true] at ha
    subst ha
    refine ⟨_, results_tmp2 rfl _ _ _, ?_⟩
    have hfin : ∃ u G', Ending.returned (Value.tuple #[.slice none 0 0, .int .i64 (lookC F I.length i)]) = .returned (.tuple #[u, .int .i64 (lookC F I.length i)]) /\ w2.ownsRow w.heap.size 3 1 u (pgB F I.length i).length (ints (pgB F I.length i)) /\ OwnR ρ G' u /\ Ext (fun x => x = μ) G w G' w2 /\ Ino G' κ μ w2 s m p lq came c P I F B :=
      ⟨_, G2, rfl, by rw [hpg]; exact World.ownsRow_nil _ _ _ _, hnil _, hx02, h2⟩
    simpa using hfin
  rw [ho] at st2 hq2
  simp (maxSteps := 999999) (disch := omega) only [↓sy1, sZ, readOK, Nat.reduceEqDiff, ↓reduceIte, oneOf, Nat.reduceAdd, Nat.reduceMul, reduceCtorEq, sgC, F14, hl, dz]
  refine R_out fun a3 ha3 => ?_
  refine sym_step (s := sgD) (by kernel_rfl) (by kernel_rfl) ha3 ?_
  apply R_in
  simp (maxSteps := 999999) (disch := omega) only [↓sy1, sZ, readOK, Nat.reduceEqDiff, ↓reduceIte, oneOf, Nat.reduceAdd, Nat.reduceMul, reduceCtorEq, sgD, F14]
  refine R_out fun a4 ha4 => ?_
  refine wpIn_seq ?_
  refine sym_step (s := sgE) (by kernel_rfl) (by kernel_rfl) ha4 ?_
  apply R_in
  have hbx3 : Boxed (w2.alloc (.cells (Value.slice none 0 0).cells 47)) w2.heap.size 47 (.slice none 0 0) := Boxed.new w2 47 (.slice none 0 0)
  have hg3 : Grow w2 (w2.alloc (.cells (Value.slice none 0 0).cells 47)) := (Keep.refl _ _).alloc _
  have hs3 : (w2.alloc (.cells (Value.slice none 0 0).cells 47)).heap.size = w2.heap.size + 1 := by simp
  have hb3 : Below w2.heap.size w2 (w2.alloc (.cells (Value.slice none 0 0).cells 47)) := (Below.refl _ w2).alloc (Nat.le_refl _) _
  have hq3 := hq2.keep hg3 id
  clear ha1 ha2 ha3 hinit
  generalize w2.alloc (.cells (Value.slice none 0 0).cells 47) = w3 at hbx3 hg3 hs3 hb3 hq3 ha4 |-
  simp (maxSteps := 999999) (disch := omega) only [↓sy1, sZ, readOK, Nat.reduceEqDiff, ↓reduceIte, oneOf, Nat.reduceAdd, Nat.reduceMul, reduceCtorEq, sgE, F14, hq3.load]
  refine call0 iall_spec ?_
  rintro _ w4 ⟨rfl, rfl⟩
  have hq4 : OpnAt (w3.alloc (.cells (Value.agg o.cells.toArray).cells 85)) w3.heap.size o := OpnAt.box w3 o
  have hg4 : Grow w3 (w3.alloc (.cells (Value.agg o.cells.toArray).cells 85)) := (Keep.refl _ _).alloc _
  have hs4 : (w3.alloc (.cells (Value.agg o.cells.toArray).cells 85)).heap.size = w3.heap.size + 1 := by simp
  have hb4 : Below w2.heap.size w2 (w3.alloc (.cells (Value.agg o.cells.toArray).cells 85)) := hb3.alloc (by omega) _
  have hbx4 := hbx3.alloc (.cells (Value.agg o.cells.toArray).cells 85)
  have hqq4 := hq3.keep hg4 id
  simp (maxSteps := 999999) (disch := omega) only [↓sy1, sZ, readOK, Nat.reduceEqDiff, ↓reduceIte, oneOf, Nat.reduceAdd, Nat.reduceMul, reduceCtorEq]
  refine R_out fun a5 ha5 => ?_
  have ha := rel38 ha5
  clear ha4 ha5
  simp only [upd, env0, Nat.reduceEqDiff, if_false, if_true] at ha
  generalize w3.alloc (.cells (Value.agg o.cells.toArray).cells 85) = w4 at hq4 hg4 hs4 hb4 hbx4 hqq4 ha |-
  have hbo : w3.heap.size = w2.heap.size + 1 := hs3
  generalize hbOd : w3.heap.size = bO at hq4 hs4 ha hbo |-
  generalize hBd : w2.heap.size = B0 at hbx4 hb4 ha hbo |-
  subst ha
  subst hbo
  refine wpIn_block ?_
  obtain ⟨i0, hi, hz0, hz1, hz2⟩ := info_parts infoInt
  have hok := (h2.file hF).2.1
  have hos := hok.size
  have hdl := pagesN_le hos
  rw [<- hok.data] at hdl
  have hseq : SeqStopsK Fence.wide (10 - 1) Tryz.prog 93 #[.pointer (some ⟨(B0 + 1), 0, none⟩)] (fun x : Nat => #[Value.int .i64 ((x : Nat) : Int)]) (fun W W' => ∀ ob, W.heap[(B0 + 1)]? = some ob -> W'.heap[(B0 + 1)]? = some ob) (fun ys => ys = o.data) (fun pre => pre <+: o.data) o.data.length w4 := fun l J Jx W hW _ _ hY h0 =>
    all1_in _ l (B0 + 1) o hok.data hos J Jx hY W ((hW.block (B0 + 1) hq4.lt).trans hq4) h0
  refine wpIn_rangeFunc_ownG rfl (by omega) (gf := 93) (lb := #[.pointer (some ⟨(B0 + 1), 0, none⟩)]) rfl trivial (enters_of Tryz.func93 (by kernel_rfl) rfl)
    hseq (fun h1 h2 ob hob => h2 ob (h1 ob hob)) (fun W l o1 o2 hl _ _ _ ob hob => (World.putObj_heap_other (by omega)).trans hob) (Below.refl _ _) (fun _ => rfl)
    (fun pre W => (∃ v, Boxed W B0 47 v /\ W.ownsRow B0 3 1 v pre.length (ints (pre.map fun n => ((n : Nat) : Int))) /\ True) /\ Below B0 w2 W /\ (OpnAt W (B0 + 1) o /\ OpnAt W w1.heap.size o))
    (fun _ _ _ => False)
    ?own (fun _ _ _ _ _ hs _ _ => hs) ⟨⟨_, hbx4, World.ownsRow_nil _ _ _ _, trivial⟩, hb4, hq4, hqq4⟩
    (fun x => { tmps := #[.pointer (some ⟨s, 0, none⟩), .int .i64 j, undef, undef, .slice none 0 0, .int .i64 0, .pointer (some ⟨w1.heap.size, 0, none⟩), .int .i64 0, .pointer (some ⟨B0, 0, none⟩), .int .i64 ((x : Nat) : Int), undef,
      .tuple #[.agg o.cells.toArray, .int .i64 0], .pointer (some ⟨s, 0, none⟩), .int .i64 j, .tuple #[.agg o.cells.toArray, .int .i64 0], .agg o.cells.toArray, .int .i64 0, .int .i64 0, .bool false, undef, .agg o.cells.toArray,
      .func (.func 93) #[] #[.pointer (some ⟨B0 + 1, 0, none⟩)], .int .i64 ((x : Nat) : Int), undef, undef, undef, undef, undef, undef, undef, undef, undef, undef, undef, undef, undef, undef, undef], defers := [] }) ?assign ?body ?done ?stop
  case own =>
    refine OwnFrom.and (Own.from (holdsRow_own B0 B0 47 3 1 (fun pre : List Nat => pre.length) (fun pre => ints (pre.map fun n => ((n : Nat) : Int))) (fun _ _ => True)) _) (OwnFrom.and (ownFrom_below (by omega) (by omega)) (Own.from ?_ _))
    rintro pre W W' row ⟨h1, h2⟩ hg hr
    have key : ∀ q x, OpnAt W q x -> OpnAt W' q x := fun q x hq => by
      refine (hg.block q hq.lt (fun hh => ?_)).trans hq
      obtain ⟨ob, hob, hc⟩ := hr q hh.symm
      rw [hq] at hob; cases hob; cases hc
    exact ⟨key _ _ h1, key _ _ h2⟩
  case assign =>
    intro l x W K hK
    gi_wp2
    exact hK
  case body =>
    rintro l pre x W ⟨⟨v, hv, hrow, _⟩, hB, hqb, hqo⟩ hlt
    have hc := hv.cell
    have hBs := hB.size
    have hvB := hv.lt
    have hB0 : B0 <= W.heap.size := by omega
    have hb1 : pre.length + 1 <= maxLen := by unfold maxLen; omega
    have hb2 : (pre.length + 1) * 8 <= 140737488355328 := by omega
    have hb3 : B0 <= (W.alloc (.cells #[Value.int .i64 ((x : Nat) : Int)] 3)).heap.size := by simp; omega
    have hb4 : ∀ u ∈ [Value.int .i64 ((x : Nat) : Int)], u.oneCell' = true := by simp [Value.oneCell']
    gi_wp2_with (gi_at_builtin; refine wpListIn_append_own _ rfl _ _ 47 rfl B0 3 i0 (.int .i64 0) 1 8 Tryz.underlying47 hi hz0 hz1 hz2 rfl Nat.one_pos _ _ _ rfl (hrow.alloc _) ⟨W.heap.size, 0, none⟩ 1 1 [.int .i64 ((x : Nat) : Int)] rfl rfl (cell_one_new _ _ _) hb4 hb1 hb2 hb3 ?_; intro v' w1' hown' hgrow _; obtain ⟨g', cap', rfl⟩ := ownsRow_succ hown'; obtain ⟨hv1, hv2, hr2, hk2, hb2'⟩ := hv.appended (by decide) hrow hB0 (Nat.le_refl _) hown' hgrow; have hc1 := hv1.cell; have hf1 := hv1.frozen)
    have hgrow' : (W.alloc (.cells #[Value.int .i64 ((x : Nat) : Int)] 3)).grownBy w1' v.ownBlock := hgrow
    have hkS := (Keep.refl (fun b => b = B0) w1').setCell (a := ⟨B0, 0, none⟩) (.slice (some ⟨g', 0, none⟩) (pre.length + 1) cap') (fun _ => rfl)
    have key : ∀ q y, OpnAt W q y -> OpnAt (w1'.setCell ⟨B0, 0, none⟩ (.slice (some ⟨g', 0, none⟩) (pre.length + 1) cap')) q y := fun q y hq => by
      refine ((hq.keep (S := fun _ => False) ((Keep.refl _ _).alloc _) id).keep (Keep.grown hgrow') (fun hh => ?_)).keep hkS (fun hh => ?_)
      · rcases hrow.2 with ⟨hz1, _⟩ | ⟨gg, cc, cur, hz1, _, hz3, _⟩
        · rw [hz1] at hh; cases hh
        · rw [hz1] at hh
          have hgg : q = gg := Option.some.inj hh
          subst hgg
          exact absurd (Obj.cells.inj (Option.some.inj (hq.symm.trans hz3))).2.1 (by decide)
      · subst hh
        exact absurd (Obj.cells.inj (Option.some.inj (hq.symm.trans hv))).2.1 (by decide)
    refine ⟨hk2.from _, fun ob hob => ?_, ⟨_, hv2, ?_, trivial⟩, hB.trans hb2', key _ _ hqb, key _ _ hqo⟩
    · rw [<- hob, hqb]; exact key _ _ hqb
    · have : ints (pre.map fun n => ((n : Nat) : Int)) ++ [Value.int .i64 ((x : Nat) : Int)] = ints ((pre ++ [x]).map fun n => ((n : Nat) : Int)) := by simp [ints]
      rw [this] at hr2
      simpa using hr2
  case done =>
    rintro D ys W hD rfl ⟨⟨v, hv, hrow, _⟩, hB, hqb, hqo⟩ hK
    have hc := hv.cell
    have hc14 := hqo.cell (j := 14) (by omega)
    rw [show o.cell 14 = o.ind from rfl] at hc14
    have hxp : ∀ {u : Value} {l : List Int} {W' : World}, Below B0 w2 W' -> W'.ownsRow B0 3 1 u l.length (ints l) -> W'.heap[D]? = some (.deferred (some [])) -> l = pgB F I.length j ->
        ∃ u' G', Ending.returned (Value.tuple #[u, .int .i64 0]) = .returned (.tuple #[u', .int .i64 0]) /\ (W'.putObj D (.deferred none)).ownsRow w.heap.size 3 1 u' (pgB F I.length j).length (ints (pgB F I.length j)) /\ OwnR ρ G' u' /\ Ext (fun x => x = μ) G w G' (W'.putObj D (.deferred none)) /\ Ino G' κ μ (W'.putObj D (.deferred none)) s m p lq came c P I F B := by
      intro u l W' hB' hrow' hK' hlp
      have hD' : B0 <= D := by omega
      have hB2 : Below B0 w2 (W'.putObj D (.deferred none)) := hB'.trans (belowK_b (w := w2) (by omega) W' D _ _ (by omega) hK' rfl rfl)
      have hgw : Grow w2 (W'.putObj D (.deferred none)) := ⟨hB2.os, hB2.tape, hB2.output, hB2.size, fun b hb _ => hB2.block b (by omega)⟩
      have hxu : Ext0 G2 w2 (G2.upto w2.heap.size (fun _ => ρ) (fun _ => 0)) (W'.putObj D (.deferred none)) := .upto hgw _ _
      have hr2 := ownsRow_putObj hrow' (.deferred none) hK' rfl
      rw [hlp] at hr2
      refine ⟨u, _, rfl, own_base hr2 (by have := hx02.size; omega), fun b hb => upto_own (by have := (World.ownsRow.lt hr2 b hb).1; omega), hx02.trans (hxu.mono fE), h2.ext hxu id id id⟩
    by_cases hind : o.ind = 0
    · rw [hind, show ((0 : Nat) : Int) = 0 from rfl] at hc14
      have hpg : o.data.map (fun n => ((n : Nat) : Int)) = pgB F I.length j := by
        unfold pgB
        rw [if_neg (by simpa using hl), ho, Opn.own, if_pos hind, List.append_nil]
      have hfin := hxp (l := o.data.map fun n => ((n : Nat) : Int)) hB (by rw [List.length_map]; exact hrow) hK hpg
      gi_wp2
      refine ⟨by simp, .inl ⟨_, _, rfl, run_takeDeferred hK, ?_⟩⟩
      refine ⟨_, results_tmp2 rfl _ _ _, ?_⟩
      simpa using hfin
    · have hni : ((o.ind : Nat) : Int) ≠ 0 := by omega
      have hpg : o.data.map (fun n => ((n : Nat) : Int)) ++ [((o.ind : Nat) : Int)] = pgB F I.length j := by
        unfold pgB
        rw [if_neg (by simpa using hl), ho, Opn.own, if_neg hind]
        simp
      have hvB := hv.lt
      have hBs := hB.size
      have hB0 : B0 <= W.heap.size := by omega
      have hb1 : o.data.length + 1 <= maxLen := by unfold maxLen; omega
      have hb2 : (o.data.length + 1) * 8 <= 140737488355328 := by omega
      have hb3 : B0 <= (W.alloc (.cells #[Value.int .i64 ((o.ind : Nat) : Int)] 3)).heap.size := by simp; omega
      have hb4 : ∀ u ∈ [Value.int .i64 ((o.ind : Nat) : Int)], u.oneCell' = true := by simp [Value.oneCell']
      gi_wp2_with (gi_at_builtin; refine wpListIn_append_own _ rfl _ _ 47 rfl B0 3 i0 (.int .i64 0) 1 8 Tryz.underlying47 hi hz0 hz1 hz2 rfl Nat.one_pos _ _ _ rfl (hrow.alloc _) ⟨W.heap.size, 0, none⟩ 1 1 [.int .i64 ((o.ind : Nat) : Int)] rfl rfl (cell_one_new _ _ _) hb4 hb1 hb2 hb3 ?_; intro v' w1' hown' hgrow _; obtain ⟨g', cap', rfl⟩ := ownsRow_succ hown'; obtain ⟨hv1, hv2, hr2, hk2, hb2'⟩ := hv.appended (by decide) hrow hB0 (Nat.le_refl _) hown' hgrow; have hc1 := hv1.cell; have hf1 := hv1.frozen; have hcn := hv2.cell)
      have hK2 := hk2.same D _ hK rfl
      have hi2 : ints (o.data.map fun n => ((n : Nat) : Int)) ++ [Value.int .i64 ((o.ind : Nat) : Int)] = ints (o.data.map (fun n => ((n : Nat) : Int)) ++ [((o.ind : Nat) : Int)]) := by simp [ints]
      rw [hi2] at hr2
      have hfin := hxp (l := o.data.map (fun n => ((n : Nat) : Int)) ++ [((o.ind : Nat) : Int)]) (hB.trans hb2') (by rw [List.length_append, List.length_map]; exact hr2) hK2 hpg
      refine ⟨by simp, .inl ⟨_, _, rfl, run_takeDeferred hK2, ?_⟩⟩
      refine ⟨_, results_tmp2 rfl _ _ _, ?_⟩
      simpa using hfin
  case stop =>
    rintro D c pre W _ _ h _
    exact h.elim
theorem ipages_file_spec {ρ : Nat} (h : Ino G κ μ w s m p lq came c P I F B) (hρ : ρ ≠ 0 /\ ρ ≠ κ /\ ρ ≠ μ) {i : Int} :
    Calls Tryz.prog 14 #[.pointer (some ⟨s, 0, none⟩), .int .i64 i] w (Ret fun v w' => ∃ u G', v = .tuple #[u, .int .i64 (lookC F I.length i)] /\ w'.ownsRow w.heap.size 3 1 u (pgB F I.length i).length (ints (pgB F I.length i)) /\ OwnR ρ G' u /\
      Ext (fun x => x = μ) G w G' w' /\ Ino G' κ μ w' s m p lq came c P I F B) :=
  (callsIn_wide.1 (ipages_in_spec h hρ)).mono fun e w' ⟨u, G', he, h1⟩ => by
    subst he
    exact ⟨u, G', rfl, h1⟩
end
end Go.Proofs.YtddiikeepncakabGreat
namespace Go.Proofs.YtddiikeepncakabGreat
open Go
set_option linter.unusedSimpArgs false
open Go.RowKit (intOf)
theorem elemBo : ElemIs Tryz.prog 46 4 1 1 (.bool false) := elem_of (by kernel_rfl)
def bls (l : List Bool) : List Value := l.map .bool
theorem bls_length (l : List Bool) : (bls l).length = l.length := by simp [bls]
theorem bls_set (l : List Bool) (i : Nat) (b : Bool) : (bls l).set i (.bool b) = bls (l.set i b) := by simp [bls, List.map_set]
theorem Has.getL {w : World} {v : Value} {l : List Bool} (h : Has 1 w v (bls l)) {i : Nat} (hi : i < l.length) : ∃ a, iaF 1 v (.int .i64 i) = some (.pointer (some a)) /\ w.cell? a = some (.bool l[i]) /\ v.ownBlock = some a.block := by
  obtain ⟨a, h1, h2, h3⟩ := h.idx (i := i) (by rw [bls_length]; exact hi)
  refine ⟨a, h1, ?_, h3⟩
  rw [h2]; simp [bls]
def takeL (l : List Bool) : List Bool := if firstN l < l.length then l.set (firstN l) true else l
def takeN (l : List Bool) : Nat := if firstN l < l.length then firstN l else 0
def takeC (l : List Bool) : Int := if firstN l < l.length then 0 else 7
theorem takeL_length (l : List Bool) : (takeL l).length = l.length := by unfold takeL; split <;> simp
theorem giveL_length (l : List Bool) (n k : Int) : (giveL l n k).length = l.length := by unfold giveL; split <;> simp
def TakeR (w w' : World) (v : Value) (l : List Bool) (r : Value) : Prop :=
  ∃ u, r = .tuple #[u, .int .i64 (takeN l), .int .i64 (takeC l)] /\ ((w'.ownsRow w.heap.size 4 1 u l.length (bls (takeL l))) \/ (u = v /\ takeL l = l))
def GiveR (w w' : World) (v : Value) (l : List Bool) (n k : Int) (r : Value) : Prop :=
  ∃ u, r = .tuple #[u, .int .i64 (giveC l n k)] /\ ((w'.ownsRow w.heap.size 4 1 u l.length (bls (giveL l n k))) \/ (u = v /\ giveL l n k = l))
theorem bls_cell (l : List Bool) : ∀ u ∈ bls l, isCell u = true := fun u hu => by
  obtain ⟨n, _, rfl⟩ := List.mem_map.1 hu; rfl
theorem rtake_spec {w : World} {v : Value} {l : List Bool} (h : Has 1 w v (bls l)) (hl : l.length <= 4096) :
    Calls Tryz.prog 115 #[v] w (Ret fun r w' => TakeR w w' v l r /\ Grow w w') := by
  apply enter115
  apply R_in
  have hlen : ∀ w', lenF w' 0 v = some (.int .i64 l.length) := fun w' => by rw [h.len, bls_length]
  simp (maxSteps := 999999) (disch := omega) only [↓sy1, sZ, readOK, Nat.reduceEqDiff, ↓reduceIte, oneOf, Nat.reduceAdd, Nat.reduceMul, reduceCtorEq, F115]
  refine loop_rule (fun e w' => ∃ i : Nat, i <= l.length /\ e 5 = .int .i64 i /\ e 0 = v /\ (∀ j < i, l[j]? = some true) /\ w = w') (fun e _ => l.length - (intOf (e 5)).toNat)
    ⟨0, by omega, by simp [upd, updO, ev], by simp [upd, updO, ev], by omega, rfl⟩ ?_
  rintro e _ ⟨i, hi, e5, e0, hall, rfl⟩
  by_cases hlt : i < l.length
  · obtain ⟨a, ha, hc, _⟩ := h.getL hlt
    cases hb : l[i] with
    | true =>
      rw [hb] at hc
      simp (maxSteps := 999999) (disch := omega) only [↓sy1, sZ, readOK, Nat.reduceEqDiff, ↓reduceIte, oneOf, Nat.reduceAdd, Nat.reduceMul, reduceCtorEq, F115_L0, e5, e0, hlen, Int.ofNat_lt, hlt, decide_true, ha, hc]
      refine R_out ⟨⟨i + 1, by omega, rfl, fun j hj => ?_⟩, by simp only [intOf]; omega⟩
      by_cases hji : j < i
      · exact hall j hji
      · rw [show j = i by omega, List.getElem?_eq_getElem hlt, hb]
    | false =>
      rw [hb] at hc
      have hf : firstN l = i := firstN_eq hall (by rw [List.getElem?_eq_getElem hlt, hb])
      simp (maxSteps := 999999) (disch := omega) only [↓sy1, sZ, readOK, Nat.reduceEqDiff, ↓reduceIte, oneOf, Nat.reduceAdd, Nat.reduceMul, reduceCtorEq, F115_L0, e5, e0, hlen, Int.ofNat_lt, hlt, decide_true, ha, hc]
      refine app_own elemBo (by simp only [upd_at, Nat.reduceEqDiff, reduceIte, ev_tmp, ev_const, List.map_cons, List.map_nil]) (by simp only [upd_at, Nat.reduceEqDiff, reduceIte, ev_tmp, ev_const, List.map_cons, List.map_nil, e0]) (World.ownsRow_nil w w.heap.size _ _) h (m := l.length) (by rw [bls_length]; omega) (bls_cell l) (by omega) (by omega) (Nat.le_refl _) ?_
      intro u w1 ho hg
      rw [Nat.zero_add, List.nil_append] at ho
      obtain ⟨a2, w2, ha2, hst, ho2, hk2, _⟩ := own_store ho hlt (u := .bool true) rfl
      rw [bls_set] at ho2
      simp (maxSteps := 999999) (disch := omega) only [↓sy1, sZ, readOK, Nat.reduceEqDiff, ↓reduceIte, oneOf, Nat.reduceAdd, Nat.reduceMul, reduceCtorEq, e5, e0, ha2, hst]
      have hg1 : Grow w w1 := (Keep.grown hg).mono (fun b _ hb => by simp [Value.ownBlock] at hb)
      refine R_out ⟨⟨u, ?_, .inl ?_⟩, hg1.then hk2 (fun b hb hh => by have := (World.ownsRow.lt ho b hh).1; omega)⟩
      · rw [takeN, takeC, hf, if_pos hlt, if_pos hlt]
      · rw [takeL, hf, if_pos hlt]; exact ho2
  · have hie : i = l.length := by omega
    subst hie
    have hf : firstN l = l.length := firstN_none hall
    simp (maxSteps := 999999) (disch := omega) only [↓sy1, sZ, readOK, Nat.reduceEqDiff, ↓reduceIte, oneOf, Nat.reduceAdd, Nat.reduceMul, reduceCtorEq, F115_L0, e5, e0, hlen, Int.ofNat_lt, hlt, decide_false]
    refine R_out ⟨⟨v, ?_, .inr ⟨rfl, ?_⟩⟩, Keep.refl _ _⟩
    · rw [takeN, takeC, if_neg (by omega), if_neg (by omega)]; rfl
    · rw [takeL, if_neg (by omega)]
theorem rgive_spec {w : World} {v : Value} {l : List Bool} {n k : Int} (h : Has 1 w v (bls l)) (hl : l.length <= 4096) (hk : 0 <= k) :
    Calls Tryz.prog 120 #[v, .int .i64 n, .int .i64 k] w (Ret fun r w' => GiveR w w' v l n k r /\ Grow w w') := by
  apply enter120
  apply R_in
  have hlen : ∀ w', lenF w' 0 v = some (.int .i64 l.length) := fun w' => by rw [h.len, bls_length]
  by_cases hout : n < k \/ (l.length : Int) <= n
  · have hcode : giveC l n k = 2 := if_pos hout
    have hsame : giveL l n k = l := by rw [giveL, if_neg (by rw [hcode]; omega)]
    by_cases h1 : n < k
    · simp (maxSteps := 999999) (disch := omega) only [↓sy1, sZ, readOK, Nat.reduceEqDiff, ↓reduceIte, oneOf, Nat.reduceAdd, Nat.reduceMul, reduceCtorEq, F120, h1, decide_true]
      exact R_out ⟨⟨v, by rw [hcode], .inr ⟨rfl, hsame⟩⟩, Keep.refl _ _⟩
    · simp (maxSteps := 999999) (disch := omega) only [↓sy1, sZ, readOK, Nat.reduceEqDiff, ↓reduceIte, oneOf, Nat.reduceAdd, Nat.reduceMul, reduceCtorEq, F120, h1, decide_false, hlen, show (l.length : Int) <= n from by omega, decide_true]
      exact R_out ⟨⟨v, by rw [hcode], .inr ⟨rfl, hsame⟩⟩, Keep.refl _ _⟩
  obtain ⟨i, rfl⟩ : ∃ i : Nat, n = i := ⟨n.toNat, by omega⟩
  have hlt : i < l.length := by omega
  obtain ⟨a, ha, hc, _⟩ := h.getL hlt
  have hcode : giveC l i k = if l[i] = true then 0 else 4 := by
    unfold giveC
    rw [if_neg hout, show ((i : Int)).toNat = i from rfl, List.getElem?_eq_getElem hlt]
    simp
  cases hb : l[i] with
  | false =>
    rw [hb] at hc hcode
    have hcode : giveC l i k = 4 := hcode
    have hsame : giveL l i k = l := by rw [giveL, if_neg (by rw [hcode]; omega)]
    simp (maxSteps := 999999) (disch := omega) only [↓sy1, sZ, readOK, Nat.reduceEqDiff, ↓reduceIte, oneOf, Nat.reduceAdd, Nat.reduceMul, reduceCtorEq, F120, show ¬((i : Int) < k) from by omega, decide_false, hlen, show ¬((l.length : Int) <= (i : Int)) from by omega, ha, hc]
    exact R_out ⟨⟨v, by rw [hcode], .inr ⟨rfl, hsame⟩⟩, Keep.refl _ _⟩
  | true =>
    rw [hb] at hc hcode
    have hcode : giveC l i k = 0 := hcode
    simp (maxSteps := 999999) (disch := omega) only [↓sy1, sZ, readOK, Nat.reduceEqDiff, ↓reduceIte, oneOf, Nat.reduceAdd, Nat.reduceMul, reduceCtorEq, F120, show ¬((i : Int) < k) from by omega, decide_false, hlen, show ¬((l.length : Int) <= (i : Int)) from by omega, ha, hc]
    refine app_own elemBo (by simp only [upd_at, Nat.reduceEqDiff, reduceIte, ev_tmp, ev_const, List.map_cons, List.map_nil]) (by simp only [upd_at, Nat.reduceEqDiff, reduceIte, ev_tmp, ev_const, List.map_cons, List.map_nil]) (World.ownsRow_nil w w.heap.size _ _) h (m := l.length) (by rw [bls_length]; omega) (bls_cell l) (by omega) (by omega) (Nat.le_refl _) ?_
    intro u w1 ho hg
    rw [Nat.zero_add, List.nil_append] at ho
    obtain ⟨a2, w2, ha2, hst, ho2, hk2, _⟩ := own_store ho hlt (u := .bool false) rfl
    rw [bls_set] at ho2
    simp (maxSteps := 999999) (disch := omega) only [↓sy1, sZ, readOK, Nat.reduceEqDiff, ↓reduceIte, oneOf, Nat.reduceAdd, Nat.reduceMul, reduceCtorEq, ha2, hst]
    have hg1 : Grow w w1 := (Keep.grown hg).mono (fun b _ hb => by simp [Value.ownBlock] at hb)
    refine R_out ⟨⟨u, by rw [hcode], .inl ?_⟩, hg1.then hk2 (fun b hb hh => by have := (World.ownsRow.lt ho b hh).1; omega)⟩
    rw [giveL, if_pos hcode]; exact ho2
structure RM (G : Gh) (μ : Nat) (w : World) (r : Nat) (P I : List Bool) : Prop where
  ne0 : μ ≠ 0
  own : G.own r = μ
  fix : G.fix r = 0
  p4 : P.length <= 4096
  i5 : I.length <= 512
  at_ : ∃ pv iv, w.heap[r]? = some (.cells #[.int .i64 P.length, .int .i64 I.length, pv, iv] 124 (0, 0)) /\ Zero G w pv (bls P) /\ Zero G w iv (bls I)
section
variable {G G' : Gh} {μ r : Nat} {w w' : World} {P I : List Bool}
theorem RM.ext {K : Nat -> Prop} (h : RM G μ w r P I) (hx : Ext K G w G' w') (hm : ¬ K μ) (h0 : ¬ K 0) : RM G' μ w' r P I := by
  obtain ⟨h1, h2, h3, h4, h5, pv, iv, h6, h7, h8⟩ := h
  have hlt := hx.lt h6
  exact ⟨h1, by rw [hx.own r hlt]; exact h2, by rw [hx.fixe r hlt (by rw [h2]; exact hm)]; exact h3, h4, h5, pv, iv, hx.heap h6 (by rw [h2]; exact hm), h7.ext hx h0, h8.ext hx h0⟩
theorem RM.grow (h : RM G μ w r P I) (hg : Grow w w') : RM G μ w' r P I := h.ext (K := fun _ => False) (.grow hg) id id
theorem RM.putP (h : RM G μ w r P I) {w1 : World} {P' : List Bool} {u : Value} (hg : Grow w w1) (hu : (w1.ownsRow w.heap.size 4 1 u P.length (bls P')) \/ (w1.cell? ⟨r, 2, none⟩ = some u /\ P' = P)) (hl : P'.length = P.length) (hc : isCell u = true) :
    ∃ w2 G', stF w1 (.pointer (some ⟨r, 2, none⟩)) u = some (undef, w2) /\ RM G' μ w2 r P' I /\ Ext (fun c => c = μ) G w G' w2 := by
  obtain ⟨h1, h2, h3, h4, h5, pv, iv, h6, h7, h8⟩ := h
  have h6' := hg.gheap h6
  have hx : Ext0 G w (G.upto w.heap.size (fun _ => 0) (fun _ => 0)) w1 := .upto hg _ _
  have hrl := hx.lt h6
  have ho : (G.upto w.heap.size (fun _ => 0) (fun _ => 0)).own r = μ /\ (G.upto w.heap.size (fun _ => 0) (fun _ => 0)).fix r = 0 := by
    rw [hx.own r hrl, hx.fixe r hrl id]; exact ⟨h2, h3⟩
  have h7' := h7.ext hx id
  have h8' := h8.ext hx id
  have hu' : Zero (G.upto w.heap.size (fun _ => 0) (fun _ => 0)) w1 u (bls P') := by
    rcases hu with hu | ⟨hu, rfl⟩
    · exact ⟨Has.own hu, fun b hb _ => ⟨(World.ownsRow.lt hu b hb).2, (upto_own (World.ownsRow.lt hu b hb).1).1⟩⟩
    · have : u = pv := by rw [cell_block h6'] at hu; exact (Option.some.inj hu).symm
      rw [this]; exact h7'
  generalize (G.upto w.heap.size (fun _ => 0) (fun _ => 0)) = G1 at hx ho h7' h8' hu'
  obtain ⟨w2, hst, hb2, hk2⟩ := cell_store (i := 2) h6' (by simp) hc
  have hx2 : Ext (fun c => c = μ) G1 w1 G1 w2 := .on0 hk2 ho.1 ho.2
  refine ⟨w2, G1, hst, ⟨h1, ho.1, ho.2, by rw [hl]; exact h4, h5, u, iv, ?_, hu'.ext hx2 (fun hh => h1 hh.symm), h8'.ext hx2 (fun hh => h1 hh.symm)⟩, (hx.mono fE).trans hx2⟩
  rw [hb2, hl]; rfl
theorem RM.putI (h : RM G μ w r P I) {w1 : World} {I' : List Bool} {u : Value} (hg : Grow w w1) (hu : (w1.ownsRow w.heap.size 4 1 u I.length (bls I')) \/ (w1.cell? ⟨r, 3, none⟩ = some u /\ I' = I)) (hl : I'.length = I.length) (hc : isCell u = true) :
    ∃ w2 G', stF w1 (.pointer (some ⟨r, 3, none⟩)) u = some (undef, w2) /\ RM G' μ w2 r P I' /\ Ext (fun c => c = μ) G w G' w2 := by
  obtain ⟨h1, h2, h3, h4, h5, pv, iv, h6, h7, h8⟩ := h
  have h6' := hg.gheap h6
  have hx : Ext0 G w (G.upto w.heap.size (fun _ => 0) (fun _ => 0)) w1 := .upto hg _ _
  have hrl := hx.lt h6
  have ho : (G.upto w.heap.size (fun _ => 0) (fun _ => 0)).own r = μ /\ (G.upto w.heap.size (fun _ => 0) (fun _ => 0)).fix r = 0 := by
    rw [hx.own r hrl, hx.fixe r hrl id]; exact ⟨h2, h3⟩
  have h7' := h7.ext hx id
  have h8' := h8.ext hx id
  have hu' : Zero (G.upto w.heap.size (fun _ => 0) (fun _ => 0)) w1 u (bls I') := by
    rcases hu with hu | ⟨hu, rfl⟩
    · exact ⟨Has.own hu, fun b hb _ => ⟨(World.ownsRow.lt hu b hb).2, (upto_own (World.ownsRow.lt hu b hb).1).1⟩⟩
    · have : u = iv := by rw [cell_block h6'] at hu; exact (Option.some.inj hu).symm
      rw [this]; exact h8'
  generalize (G.upto w.heap.size (fun _ => 0) (fun _ => 0)) = G1 at hx ho h7' h8' hu'
  obtain ⟨w2, hst, hb2, hk2⟩ := cell_store (i := 3) h6' (by simp) hc
  have hx2 : Ext (fun c => c = μ) G1 w1 G1 w2 := .on0 hk2 ho.1 ho.2
  refine ⟨w2, G1, hst, ⟨h1, ho.1, ho.2, h4, by rw [hl]; exact h5, pv, u, ?_, h7'.ext hx2 (fun hh => h1 hh.symm), hu'.ext hx2 (fun hh => h1 hh.symm)⟩, (hx.mono fE).trans hx2⟩
  rw [hb2, hl]; rfl
theorem RM.cells (h : RM G μ w r P I) : ∃ pv iv, Has 1 w pv (bls P) /\ Has 1 w iv (bls I) /\ ∀ {w'}, Grow w w' -> w'.cell? ⟨r, 0, none⟩ = some (.int .i64 P.length) /\ w'.cell? ⟨r, 1, none⟩ = some (.int .i64 I.length) /\ w'.cell? ⟨r, 2, none⟩ = some pv /\ w'.cell? ⟨r, 3, none⟩ = some iv := by
  obtain ⟨h1, h2, h3, h4, h5, pv, iv, h6, h7, h8⟩ := h
  refine ⟨pv, iv, h7.1, h8.1, fun hg => ?_⟩
  have h6' := hg.gheap h6
  exact ⟨by rw [cell_block h6']; rfl, by rw [cell_block h6']; rfl, by rw [cell_block h6']; rfl, by rw [cell_block h6']; rfl⟩
theorem rpage_spec (h : RM G μ w r P I) : Calls Tryz.prog 118 #[.pointer (some ⟨r, 0, none⟩)] w (Ret fun v w' => v = .tuple #[.int .i64 (takeN P), .int .i64 (takeC P)] /\ ∃ G', RM G' μ w' r (takeL P) I /\ Ext (fun c => c = μ) G w G' w') := by
  obtain ⟨pv, iv, hp, hi, hc⟩ := h.cells
  apply enter118
  apply R_in
  simp (maxSteps := 999999) (disch := omega) only [↓sy1, sZ, readOK, Nat.reduceEqDiff, ↓reduceIte, oneOf, Nat.reduceAdd, Nat.reduceMul, reduceCtorEq, F118, (hc (Keep.refl _ _)).2.2.1]
  refine call0 (rtake_spec hp h.p4) ?_
  rintro _ w1 ⟨⟨u, rfl, hu⟩, hg1⟩
  have huc : isCell u = true := by
    rcases hu with hu | ⟨rfl, _⟩
    · exact (Has.own hu).isCell
    · exact hp.isCell
  obtain ⟨w2, G2, hst, hR, hx⟩ := h.putP hg1 (P' := takeL P) (u := u) (hu.imp id (fun hh => ⟨by rw [hh.1]; exact (hc hg1).2.2.1, hh.2⟩)) (takeL_length P) huc
  simp (maxSteps := 999999) (disch := omega) only [↓sy1, sZ, readOK, Nat.reduceEqDiff, ↓reduceIte, oneOf, Nat.reduceAdd, Nat.reduceMul, reduceCtorEq, hst]
  exact R_out ⟨G2, hR, hx⟩
theorem rinode_spec (h : RM G μ w r P I) : Calls Tryz.prog 74 #[.pointer (some ⟨r, 0, none⟩)] w (Ret fun v w' => v = .tuple #[.int .i64 (takeN I), .int .i64 (takeC I)] /\ ∃ G', RM G' μ w' r P (takeL I) /\ Ext (fun c => c = μ) G w G' w') := by
  obtain ⟨pv, iv, hp, hi, hc⟩ := h.cells
  have h5 := h.i5
  apply enter74
  apply R_in
  simp (maxSteps := 999999) (disch := omega) only [↓sy1, sZ, readOK, Nat.reduceEqDiff, ↓reduceIte, oneOf, Nat.reduceAdd, Nat.reduceMul, reduceCtorEq, F74, (hc (Keep.refl _ _)).2.2.2]
  refine call0 (rtake_spec hi (by omega)) ?_
  rintro _ w1 ⟨⟨u, rfl, hu⟩, hg1⟩
  have huc : isCell u = true := by
    rcases hu with hu | ⟨rfl, _⟩
    · exact (Has.own hu).isCell
    · exact hi.isCell
  obtain ⟨w2, G2, hst, hR, hx⟩ := h.putI hg1 (I' := takeL I) (u := u) (hu.imp id (fun hh => ⟨by rw [hh.1]; exact (hc hg1).2.2.2, hh.2⟩)) (takeL_length I) huc
  simp (maxSteps := 999999) (disch := omega) only [↓sy1, sZ, readOK, Nat.reduceEqDiff, ↓reduceIte, oneOf, Nat.reduceAdd, Nat.reduceMul, reduceCtorEq, hst]
  exact R_out ⟨G2, hR, hx⟩
theorem rfirst_spec (h : RM G μ w r P I) : Calls Tryz.prog 63 #[.pointer (some ⟨r, 0, none⟩)] w (Ret fun v w' => v = .int .i64 ((3 + I.length / 8 : Nat) : Int) /\ w' = w) := by
  obtain ⟨pv, iv, hp, hi, hc⟩ := h.cells
  have h5 := h.i5
  apply enter63
  apply R_in
  simp (maxSteps := 999999) (disch := omega) only [↓sy1, sZ, readOK, Nat.reduceEqDiff, ↓reduceIte, oneOf, Nat.reduceAdd, Nat.reduceMul, reduceCtorEq, F63, (hc (Keep.refl _ _)).2.1, tdiv8]
  exact R_out (congrArg (Value.int .i64) (by omega))
theorem rgivep_spec (h : RM G μ w r P I) {n : Int} : Calls Tryz.prog 119 #[.pointer (some ⟨r, 0, none⟩), .int .i64 n] w (Ret fun v w' => v = .int .i64 (giveC P n (3 + I.length / 8 : Nat)) /\ ∃ G', RM G' μ w' r (giveL P n (3 + I.length / 8 : Nat)) I /\ Ext (fun c => c = μ) G w G' w') := by
  obtain ⟨pv, iv, hp, hi, hc⟩ := h.cells
  apply enter119
  apply R_in
  simp (maxSteps := 999999) (disch := omega) only [↓sy1, sZ, readOK, Nat.reduceEqDiff, ↓reduceIte, oneOf, Nat.reduceAdd, Nat.reduceMul, reduceCtorEq, F119]
  refine draw119_0 (fun _ => False) ?_
  have hgd : Grow w w.drew := (Keep.refl _ _).drew
  have hd := h.grow hgd
  have hcd := hc hgd
  have hxd : Ext0 G w G w.drew := .grow hgd
  have hc' : ∀ {w'}, Grow w.drew w' -> w'.cell? ⟨r, 2, none⟩ = some pv := fun hg => (hc (hgd.trans hg)).2.2.1
  have hp' := hp.grow hgd
  generalize w.drew = w0 at hgd hd hcd hxd hc' hp' |-
  simp (maxSteps := 999999) (disch := omega) only [↓sy1, sZ, readOK, Nat.reduceEqDiff, ↓reduceIte, oneOf, Nat.reduceAdd, Nat.reduceMul, reduceCtorEq, PL119_0, hcd]
  refine call0 (rfirst_spec hd) ?_
  rintro _ w0 ⟨rfl, rfl⟩
  simp (maxSteps := 999999) (disch := omega) only [↓sy1, sZ, readOK, Nat.reduceEqDiff, ↓reduceIte, oneOf, Nat.reduceAdd, Nat.reduceMul, reduceCtorEq]
  refine ⟨Keep.refl _ _, ?_⟩
  refine call0 (rgive_spec hp' h.p4 (n := n) (k := ((3 + I.length / 8 : Nat) : Int)) (by omega)) ?_
  rintro _ w1 ⟨⟨u, rfl, hu⟩, hg1⟩
  have huc : isCell u = true := by
    rcases hu with hu | ⟨rfl, _⟩
    · exact (Has.own hu).isCell
    · exact hp.isCell
  obtain ⟨w2, G2, hst, hR, hx⟩ := hd.putP hg1 (P' := giveL P n (3 + I.length / 8 : Nat)) (u := u) (hu.imp id (fun hh => ⟨by rw [hh.1]; exact hc' hg1, hh.2⟩)) (giveL_length _ _ _) huc
  simp (maxSteps := 999999) (disch := omega) only [↓sy1, sZ, readOK, Nat.reduceEqDiff, ↓reduceIte, oneOf, Nat.reduceAdd, Nat.reduceMul, reduceCtorEq, hst]
  exact R_out ⟨G2, hR, (hxd.mono fE).trans hx⟩
theorem rgivei_spec (h : RM G μ w r P I) {n : Int} : Calls Tryz.prog 80 #[.pointer (some ⟨r, 0, none⟩), .int .i64 n] w (Ret fun v w' => v = .int .i64 (giveC I n 1) /\ ∃ G', RM G' μ w' r P (giveL I n 1) /\ Ext (fun c => c = μ) G w G' w') := by
  obtain ⟨pv, iv, hp, hi, hc⟩ := h.cells
  have h5 := h.i5
  apply enter80
  apply R_in
  simp (maxSteps := 999999) (disch := omega) only [↓sy1, sZ, readOK, Nat.reduceEqDiff, ↓reduceIte, oneOf, Nat.reduceAdd, Nat.reduceMul, reduceCtorEq, F80, (hc (Keep.refl _ _)).2.2.2]
  refine call0 (rgive_spec hi (by omega) (n := n) (k := 1) (by omega)) ?_
  rintro _ w1 ⟨⟨u, rfl, hu⟩, hg1⟩
  have huc : isCell u = true := by
    rcases hu with hu | ⟨rfl, _⟩
    · exact (Has.own hu).isCell
    · exact hi.isCell
  obtain ⟨w2, G2, hst, hR, hx⟩ := h.putI hg1 (I' := giveL I n 1) (u := u) (hu.imp id (fun hh => ⟨by rw [hh.1]; exact (hc hg1).2.2.2, hh.2⟩)) (giveL_length _ _ _) huc
  simp (maxSteps := 999999) (disch := omega) only [↓sy1, sZ, readOK, Nat.reduceEqDiff, ↓reduceIte, oneOf, Nat.reduceAdd, Nat.reduceMul, reduceCtorEq, hst]
  exact R_out ⟨G2, hR, hx⟩
theorem rinodes_spec (h : RM G μ w r P I) : Calls Tryz.prog 65 #[.pointer (some ⟨r, 0, none⟩)] w (Ret fun v w' => v = .int .i64 I.length /\ w' = w) := by
  obtain ⟨pv, iv, hp, hi, hc⟩ := h.cells
  apply enter65
  apply R_in
  simp (maxSteps := 999999) (disch := omega) only [↓sy1, sZ, readOK, Nat.reduceEqDiff, ↓reduceIte, oneOf, Nat.reduceAdd, Nat.reduceMul, reduceCtorEq, F65, (hc (Keep.refl _ _)).2.1]
  exact R_out trivial
theorem rusedi_spec (h : RM G μ w r P I) {n : Int} : Calls Tryz.prog 114 #[.pointer (some ⟨r, 0, none⟩), .int .i64 n] w (Ret fun v w' => v = .bool (usedC I n) /\ w' = w) := by
  obtain ⟨pv, iv, hp, hi, hc⟩ := h.cells
  have hlen : ∀ w', lenF w' 0 iv = some (.int .i64 I.length) := fun w' => by rw [hi.len, bls_length]
  apply enter114
  apply R_in
  by_cases h0 : 0 <= n
  · by_cases h1 : n < I.length
    · obtain ⟨i, rfl⟩ : ∃ i : Nat, n = i := ⟨n.toNat, by omega⟩
      obtain ⟨a, ha, hca, _⟩ := hi.getL (i := i) (by omega)
      simp (maxSteps := 999999) (disch := omega) only [↓sy1, sZ, readOK, Nat.reduceEqDiff, ↓reduceIte, oneOf, Nat.reduceAdd, Nat.reduceMul, reduceCtorEq, F114, h0, (hc (Keep.refl _ _)).2.2.2, hlen, h1, decide_true, ha, hca]
      refine R_out ?_
      unfold usedC
      rw [decide_eq_true (by omega), Bool.true_and, show ((i : Int)).toNat = i from rfl, List.getD_eq_getElem?_getD, List.getElem?_eq_getElem (by omega)]
      rfl
    · simp (maxSteps := 999999) (disch := omega) only [↓sy1, sZ, readOK, Nat.reduceEqDiff, ↓reduceIte, oneOf, Nat.reduceAdd, Nat.reduceMul, reduceCtorEq, F114, h0, (hc (Keep.refl _ _)).2.2.2, hlen, h1, dy]
      refine R_out ?_
      unfold usedC
      rw [decide_eq_false (by omega)]; rfl
  · simp (maxSteps := 999999) (disch := omega) only [↓sy1, sZ, readOK, Nat.reduceEqDiff, ↓reduceIte, oneOf, Nat.reduceAdd, Nat.reduceMul, reduceCtorEq, F114, h0, decide_false]
    refine R_out ?_
    unfold usedC
    rw [decide_eq_false (by omega)]; rfl
end
theorem upto1_zero (N : Nat) : upto1 0 N = List.replicate N false := by
  refine List.ext_getElem? fun i => ?_
  by_cases hi : i < N
  · rw [upto1_get hi, List.getElem?_replicate, if_pos hi, decide_eq_false (by omega)]
  · rw [List.getElem?_eq_none (by rw [upto1_length]; omega), List.getElem?_eq_none (by rw [List.length_replicate]; omega)]
theorem rfirstc_spec {w : World} {r k : Nat} (hc : w.cell? ⟨r, 1, none⟩ = some (.int .i64 k)) (hk : k <= 100000) : Calls Tryz.prog 63 #[.pointer (some ⟨r, 0, none⟩)] w (Ret fun v w' => v = .int .i64 ((3 + k / 8 : Nat) : Int) /\ w' = w) := by
  apply enter63
  apply R_in
  simp (maxSteps := 999999) (disch := omega) only [↓sy1, sZ, readOK, Nat.reduceEqDiff, ↓reduceIte, oneOf, Nat.reduceAdd, Nat.reduceMul, reduceCtorEq, F63, hc, tdiv8]
  exact R_out (congrArg (Value.int .i64) (by omega))
theorem fillF_4 {a b c d x y z u : Value} (hx : isCell x = true) (hy : isCell y = true) (hz : isCell z = true) (hu : isCell u = true) : fillF #[a, b, c, d] [(0, 1, x), (1, 1, y), (2, 1, z), (3, 1, u)] = some #[x, y, z, u] := by
  rw [fillF_cell hx (by simp), fillF_cell hy (by simp), fillF_cell hz (by simp), fillF_cell hu (by simp), fillF_nil]; simp
theorem mkb_rule {k : Kont} {e : Env} {w : World} {l : List GOp} {d : Option Nat} {x y : Operand} {n : Nat} {ty : TypeId} (hx : ev e x = .int .i64 n) (hy : ev e y = .int .i64 n) (hn : n <= 5000) (hh : ∀ v w', Grow w w' -> w'.ownsRow w.heap.size 4 1 v n (bls (List.replicate n false)) -> R (symOps Tryz.prog l k (updO e d v) w')) :
    R (symOps Tryz.prog (⟨d, .hard (H (.makeSlice 46 x y) ty), none⟩ :: l) k e w) := by
  refine mk_rule elemBo (kx := .i64) (ky := .i64) (a := n) (c := n) hx hy (by omega) (by omega) (by omega) (by omega) rfl ?_
  rw [show ((n : Int)).toNat = n from rfl]
  refine hh _ _ ((Keep.refl _ _).alloc _) ?_
  have ho7 := own_made w w.heap.size (Nat.le_refl _) 4 n (by omega) (.bool false)
  rw [show bls (List.replicate n false) = List.replicate n (.bool false) from List.map_replicate]; exact ho7
set_option maxHeartbeats 4000000 in
theorem rmake_spec {w : World} {N k : Nat} (G : Gh) (μ : Nat) (hμ : μ ≠ 0) (hk : mayA N k) :
    Calls Tryz.prog 22 #[.int .i64 N, .int .i64 k] w (Ret fun v w' => ∃ r G', v = .tuple #[.pointer (some ⟨r, 0, none⟩), .int .i64 0] /\ RM G' μ w' r (upto1 (3 + k / 8) N) (upto1 1 k) /\ Ext0 G w G' w') := by
  apply enter22
  apply R_in
  have hk' := hk
  unfold mayA at hk'
  simp (maxSteps := 999999) (disch := omega) only [↓sy1, sZ, readOK, Nat.reduceEqDiff, ↓reduceIte, oneOf, Nat.reduceAdd, Nat.reduceMul, reduceCtorEq, F22, show ¬((k : Int) < 8) from by omega, show ¬((512 : Int) < (k : Int)) from by omega, dy, tmod8, tdiv8, show (((k % 8 : Nat) : Int) = 0) from by omega, show ¬((4096 : Int) < (N : Int)) from by omega, show ¬((N : Int) <= 3 + ((k / 8 : Nat) : Int)) from by omega]
  refine draw22_0 (fun _ => False) ?_
  have hgd : Grow w w.drew := (Keep.refl _ _).drew
  generalize hw0 : w.drew = w0 at hgd |-
  have hB0 := hgd.size
  clear hw0
  simp (maxSteps := 999999) (disch := omega) only [↓sy1, sZ, readOK, Nat.reduceEqDiff, ↓reduceIte, oneOf, Nat.reduceAdd, Nat.reduceMul, reduceCtorEq, PL22_0]
  have fin : ∀ (e : Env) (w2 : World) (pv iv : Value), Grow w w2 -> w2.ownsRow w.heap.size 4 1 pv N (bls (List.replicate N false)) -> w2.ownsRow w.heap.size 4 1 iv k (bls (List.replicate k false)) -> (∀ b, pv.ownBlock = some b -> iv.ownBlock ≠ some b) ->
      e 6 = .pointer (some ⟨w2.heap.size, 0, none⟩) -> R (symS 56 Tryz.prog ((((SCode.ops [⟨some 7, .mv (.const (.int .i64 0)), none⟩]).seq (SCode.block 0 (.loop F22_L0))).seq
        ((SCode.ops [⟨some 50, .mv (.tmp 6), none⟩, ⟨some 51, .nilc (.tmp 50), none⟩, ⟨some 52, .fa 3 (.tmp 51), none⟩, ⟨some 53, .ld (.tmp 52), none⟩, ⟨some 54, .ia 1 (.tmp 53) (.const (.int .i64 0)), none⟩, ⟨none, .st (.tmp 54) (.const (.bool true)), none⟩]).seq
          ((SCode.ops [⟨some 55, .mv (.tmp 6), none⟩, ⟨some 4, .mv (.tmp 55), none⟩, ⟨some 5, .mv (.const (.int .i64 0)), none⟩]).seq SCode.ret))))
        ⟨fun e w_1 => ∃ r G', Value.tuple #[e 4, e 5] = .tuple #[.pointer (some ⟨r, 0, none⟩), .int .i64 0] /\ RM G' μ w_1 r (upto1 (3 + k / 8) N) (upto1 1 k) /\ Ext0 G w G' w_1, fun _ _ _ => False, fun e w_1 => ∃ r G', Value.tuple #[e 4, e 5] = .tuple #[.pointer (some ⟨r, 0, none⟩), .int .i64 0] /\ RM G' μ w_1 r (upto1 (3 + k / 8) N) (upto1 1 k) /\ Ext0 G w G' w_1, NoPanic⟩ e (w2.alloc (.cells #[.int .i64 N, .int .i64 k, pv, iv] 124))) := by
    intro e w2 pv iv hg2 hp hi hne e6
    have hg3 : Grow w2 (w2.alloc (.cells #[.int .i64 N, .int .i64 k, pv, iv] 124)) := (Keep.refl _ _).alloc _
    have hb3 := heap_alloc_new w2 (.cells #[.int .i64 N, .int .i64 k, pv, iv] 124)
    have hr := hg2.size
    generalize w2.alloc (.cells #[.int .i64 N, .int .i64 k, pv, iv] 124) = w3 at hg3 hb3 |-
    have hp3 := own_grow hp hg3
    have hi3 := own_grow hi hg3
    have hpr : ∀ b, pv.ownBlock = some b -> b ≠ w2.heap.size := fun b hb => by have := (World.ownsRow.lt hp b hb).2; omega
    have hir : ∀ b, iv.ownBlock = some b -> b ≠ w2.heap.size := fun b hb => by have := (World.ownsRow.lt hi b hb).2; omega
    have hg03 := hg2.trans hg3
    generalize w2.heap.size = r at hb3 e6 hr hpr hir
    rw [<- upto1_zero] at hp3 hi3
    simp (maxSteps := 999999) (disch := omega) only [↓sy1, sZ, readOK, Nat.reduceEqDiff, ↓reduceIte, oneOf, Nat.reduceAdd, Nat.reduceMul, reduceCtorEq]
    refine loop_rule (fun e w' => ∃ i : Nat, i <= 3 + k / 8 /\ e 7 = .int .i64 i /\ e 6 = .pointer (some ⟨r, 0, none⟩) /\ w'.heap[r]? = some (.cells #[.int .i64 N, .int .i64 k, pv, iv] 124 (0, 0)) /\ w'.ownsRow w.heap.size 4 1 pv N (bls (upto1 i N)) /\ w'.ownsRow w.heap.size 4 1 iv k (bls (upto1 0 k)) /\ Grow w w') (fun e _ => 3 + k / 8 - (intOf (e 7)).toNat)
      ⟨0, by omega, by simp [upd, updO, ev], by simp [upd, updO, ev, e6], hb3, hp3, hi3, hg03⟩ ?_
    clear hb3 hp3 hi3 hg03 hp hi hg2 hg3 e6
    rintro e w4 ⟨i, hi', e7, e6, hb4, hp4, hi4, hg4⟩
    have hc1 : w4.cell? ⟨r, 1, none⟩ = some (.int .i64 k) := by rw [cell_block hb4]; rfl
    have hc2 : w4.cell? ⟨r, 2, none⟩ = some pv := by rw [cell_block hb4]; rfl
    have hc3 : w4.cell? ⟨r, 3, none⟩ = some iv := by rw [cell_block hb4]; rfl
    by_cases hlt : i < 3 + k / 8
    · obtain ⟨a, w5, ha, hst, hp5, hk5, _⟩ := own_store hp4 (i := i) (by omega) (u := .bool true) rfl
      rw [bls_set, upto1_set (by omega)] at hp5
      simp (maxSteps := 999999) (disch := omega) only [↓sy1, sZ, readOK, Nat.reduceEqDiff, ↓reduceIte, oneOf, Nat.reduceAdd, Nat.reduceMul, reduceCtorEq, F22_L0, e7, e6]
      refine call0 (rfirstc_spec hc1 (by omega)) ?_
      rintro _ w4 ⟨rfl, rfl⟩
      simp (maxSteps := 999999) (disch := omega) only [↓sy1, sZ, readOK, Nat.reduceEqDiff, ↓reduceIte, oneOf, Nat.reduceAdd, Nat.reduceMul, reduceCtorEq, e7, e6, Int.ofNat_lt, hlt, decide_true, hc2, ha, hst]
      exact R_out ⟨⟨i + 1, by omega, rfl, hk5.heap hb4 (fun hh => hpr _ hh rfl), hp5, own_keep hi4 hk5 (fun b hb hh => hne b hh hb), hg4.then hk5 (fun b hb hh => by have := (World.ownsRow.lt hp4 b hh).1; omega)⟩, by simp only [intOf]; omega⟩
    · have hie : i = 3 + k / 8 := by omega
      subst hie
      obtain ⟨a, w5, ha, hst, hi5, hk5, _⟩ := own_store hi4 (i := 0) (by omega) (u := .bool true) rfl
      have ha : iaF 1 iv (.int .i64 0) = some (.pointer (some a)) := ha
      rw [bls_set, upto1_set (by omega)] at hi5
      have hp5 := own_keep hp4 hk5 (fun b hb hh => hne b hb hh)
      have hb5 := hk5.heap hb4 (fun hh => hir _ hh rfl)
      have hg5 : Grow w w5 := hg4.then hk5 (fun b hb hh => by have := (World.ownsRow.lt hi4 b hh).1; omega)
      simp (maxSteps := 999999) (disch := omega) only [↓sy1, sZ, readOK, Nat.reduceEqDiff, ↓reduceIte, oneOf, Nat.reduceAdd, Nat.reduceMul, reduceCtorEq, F22_L0, e7, e6]
      refine call0 (rfirstc_spec hc1 (by omega)) ?_
      rintro _ w4 ⟨rfl, rfl⟩
      simp (maxSteps := 999999) (disch := omega) only [↓sy1, sZ, readOK, Nat.reduceEqDiff, ↓reduceIte, oneOf, Nat.reduceAdd, Nat.reduceMul, reduceCtorEq, e7, e6, Int.ofNat_lt, Nat.lt_irrefl, decide_false, hc3, ha, hst]
      have hx : Ext0 G w (G.upto w.heap.size (fun b => if b = r then μ else 0) (fun _ => 0)) w5 := .upto hg5 _ _
      have hown : ∀ b, w.heap.size <= b -> b ≠ r -> (G.upto w.heap.size (fun b => if b = r then μ else 0) (fun _ => 0)).own b = 0 := fun b hb hbr => by simp [Gh.upto, Nat.not_lt.2 hb, hbr]
      refine R_out ⟨r, _, rfl, ⟨hμ, by simp [Gh.upto, Nat.not_lt.2 hr], by simp [Gh.upto, Nat.not_lt.2 hr], by rw [upto1_length]; omega, by rw [upto1_length]; omega, pv, iv, ?_, ⟨Has.own hp5, fun b hb _ => ⟨(World.ownsRow.lt hp5 b hb).2, hown b (World.ownsRow.lt hp5 b hb).1 (hpr b hb)⟩⟩, ⟨Has.own hi5, fun b hb _ => ⟨(World.ownsRow.lt hi5 b hb).2, hown b (World.ownsRow.lt hi5 b hb).1 (hir b hb)⟩⟩⟩, hx⟩
      rw [upto1_length, upto1_length]; exact hb5
  refine ⟨mkb_rule (n := N) (by simp only [upd_at, Nat.reduceEqDiff, reduceIte, ev_tmp, ev_const, List.map_cons, List.map_nil]) (by simp only [upd_at, Nat.reduceEqDiff, reduceIte, ev_tmp, ev_const, List.map_cons, List.map_nil]) (by omega) (fun pv w1 hg1 hp => ?_), mkb_rule (n := k) (by simp only [upd_at, Nat.reduceEqDiff, reduceIte, ev_tmp, ev_const, List.map_cons, List.map_nil]) (by simp only [upd_at, Nat.reduceEqDiff, reduceIte, ev_tmp, ev_const, List.map_cons, List.map_nil]) (by omega) (fun iv w1 hg1 hi => ?_)⟩
  · simp (maxSteps := 999999) (disch := omega) only [↓sy1, sZ, readOK, Nat.reduceEqDiff, ↓reduceIte, oneOf, Nat.reduceAdd, Nat.reduceMul, reduceCtorEq]
    refine mkb_rule (n := k) (by simp only [upd_at, Nat.reduceEqDiff, reduceIte, ev_tmp, ev_const, List.map_cons, List.map_nil]) (by simp only [upd_at, Nat.reduceEqDiff, reduceIte, ev_tmp, ev_const, List.map_cons, List.map_nil]) (by omega) (fun iv w2 hg2 hi => ?_)
    have hpc := (Has.own hp).isCell
    have hic := (Has.own hi).isCell
    have hne : ∀ b, pv.ownBlock = some b -> iv.ownBlock ≠ some b := fun b hb hh => by
      have := (World.ownsRow.lt hp b hb).2
      have := (World.ownsRow.lt hi b hh).1; omega
    have hg1s := hg1.size
    simp (maxSteps := 999999) (disch := omega) only [↓sy1, sZ, readOK, Nat.reduceEqDiff, ↓reduceIte, oneOf, Nat.reduceAdd, Nat.reduceMul, reduceCtorEq, fill_gen, List.map_cons, List.map_nil, fillF_4 (x := .int .i64 (N : Int)) (y := .int .i64 (k : Int)) (z := pv) (u := iv) rfl rfl hpc hic, agg4_cells (x := .int .i64 (N : Int)) (y := .int .i64 (k : Int)) (z := pv) (u := iv) rfl rfl hpc hic]
    refine fin _ w2 pv iv ((hgd.trans hg1).trans hg2) (own_base (own_grow hp hg2) (by omega)) (own_base hi (by omega)) hne ?_
    simp [upd]
  · simp (maxSteps := 999999) (disch := omega) only [↓sy1, sZ, readOK, Nat.reduceEqDiff, ↓reduceIte, oneOf, Nat.reduceAdd, Nat.reduceMul, reduceCtorEq]
    refine mkb_rule (n := N) (by simp only [upd_at, Nat.reduceEqDiff, reduceIte, ev_tmp, ev_const, List.map_cons, List.map_nil]) (by simp only [upd_at, Nat.reduceEqDiff, reduceIte, ev_tmp, ev_const, List.map_cons, List.map_nil]) (by omega) (fun pv w2 hg2 hp => ?_)
    have hpc := (Has.own hp).isCell
    have hic := (Has.own hi).isCell
    have hne : ∀ b, pv.ownBlock = some b -> iv.ownBlock ≠ some b := fun b hb hh => by
      have := (World.ownsRow.lt hp b hb).1
      have := (World.ownsRow.lt hi b hh).2; omega
    have hg1s := hg1.size
    simp (maxSteps := 999999) (disch := omega) only [↓sy1, sZ, readOK, Nat.reduceEqDiff, ↓reduceIte, oneOf, Nat.reduceAdd, Nat.reduceMul, reduceCtorEq, fill_gen, List.map_cons, List.map_nil, fillF_4 (x := .int .i64 (N : Int)) (y := .int .i64 (k : Int)) (z := pv) (u := iv) rfl rfl hpc hic, agg4_cells (x := .int .i64 (N : Int)) (y := .int .i64 (k : Int)) (z := pv) (u := iv) rfl rfl hpc hic]
    refine fin _ w2 pv iv ((hgd.trans hg1).trans hg2) (own_base hp (by omega)) (own_base (own_grow hi hg2) (by omega)) hne ?_
    simp [upd]
def zfile : List Value := [.int .i64 0, .int .i64 0, .int .i64 0, .slice none 0 0, .slice none 0 0, .int .i64 0]
theorem elemRF : ElemIs Tryz.prog 129 138 6 80 (.agg zfile.toArray) := elem_of (by kernel_rfl)
def ZeroK (k : Nat) (G : Gh) (w : World) (v : Value) (xs : List Value) : Prop := Has k w v xs /\ ∀ b, v.ownBlock = some b -> xs ≠ [] -> b < w.heap.size /\ G.own b = 0
theorem ZeroK.ext {k : Nat} {K : Nat -> Prop} {G G' : Gh} {w w' : World} {v : Value} {xs : List Value} (h : ZeroK k G w v xs) (hx : Ext K G w G' w') (h0 : ¬ K 0) : ZeroK k G' w' v xs := by
  refine ⟨h.1.keep hx.keep (fun b hb hne => by rw [(h.2 b hb hne).2]; exact h0), fun b hb hne => ?_⟩
  obtain ⟨h1, h2⟩ := h.2 b hb hne
  exact ⟨Nat.lt_of_lt_of_le h1 hx.size, by rw [hx.own b h1]; exact h2⟩
def RF (G : Gh) (w : World) (cs : List Value) : Prop := ∃ (kd md ln ind : Int) (bv dv : Value) (b : List UInt8) (d : List Int), cs = [.int .i64 kd, .int .i64 md, .int .i64 ln, bv, dv, .int .i64 ind] /\ Zero G w bv (bs b) /\ Zero G w dv (ints d) /\ b.length <= 70656 /\ d.length <= 138
theorem RF.ext {K : Nat -> Prop} {G G' : Gh} {w w' : World} {cs : List Value} (h : RF G w cs) (hx : Ext K G w G' w') (h0 : ¬ K 0) : RF G' w' cs := by
  obtain ⟨kd, md, ln, ind, bv, dv, b, d, rfl, h1, h2, h3, h4⟩ := h
  exact ⟨kd, md, ln, ind, bv, dv, b, d, rfl, h1.ext hx h0, h2.ext hx h0, h3, h4⟩
theorem RF.zero (G : Gh) (w : World) : RF G w zfile := ⟨0, 0, 0, 0, _, _, [], [], rfl, ⟨Has.nil _ _, fun b hb => by cases hb⟩, ⟨Has.nil _ _, fun b hb => by cases hb⟩, by simp, by simp⟩
theorem RF.len {G : Gh} {w : World} {cs : List Value} (h : RF G w cs) : cs.length = 6 := by obtain ⟨_, _, _, _, _, _, _, _, rfl, _⟩ := h; rfl
theorem RF.cells {G : Gh} {w : World} {cs : List Value} (h : RF G w cs) : ∀ u ∈ cs, isCell u = true := by
  obtain ⟨kd, md, ln, ind, bv, dv, b, d, rfl, h1, h2, h3, h4⟩ := h
  intro u hu
  simp at hu
  rcases hu with rfl | rfl | rfl | rfl | rfl | rfl
  · rfl
  · rfl
  · rfl
  · exact h1.1.isCell
  · exact h2.1.isCell
  · rfl
def RFs (G : Gh) (w : World) (v : Value) (k : Nat) : Prop := ∃ css : List (List Value), css.length = k /\ ZeroK 6 G w v css.flatten /\ ∀ cs ∈ css, RF G w cs
theorem RFs.ext {k : Nat} {K : Nat -> Prop} {G G' : Gh} {w w' : World} {v : Value} (h : RFs G w v k) (hx : Ext K G w G' w') (h0 : ¬ K 0) : RFs G' w' v k := by
  obtain ⟨css, h1, h2, h3⟩ := h
  exact ⟨css, h1, h2.ext hx h0, fun cs hc => (h3 cs hc).ext hx h0⟩
theorem flat6 : ∀ {css : List (List Value)}, (∀ cs ∈ css, cs.length = 6) -> css.flatten.length = css.length * 6
  | [], _ => rfl
  | c :: css, h => by
    rw [List.flatten_cons, List.length_append, h c (by simp), flat6 (fun cs hc => h cs (by simp [hc])), List.length_cons]; omega
theorem flat6_at : ∀ {css : List (List Value)} {i j : Nat} {cs : List Value}, (∀ cs ∈ css, cs.length = 6) -> css[i]? = some cs -> j < 6 -> css.flatten[i * 6 + j]? = cs[j]?
  | [], i, j, cs, _, hi, _ => by simp at hi
  | c :: css, 0, j, cs, h, hi, hj => by
    simp at hi; subst hi
    rw [List.flatten_cons, List.getElem?_append_left (by rw [h c (by simp)]; omega)]
    congr 1; omega
  | c :: css, i + 1, j, cs, h, hi, hj => by
    simp at hi
    have hc := h c (by simp)
    rw [List.flatten_cons, List.getElem?_append_right (by omega), hc, show (i + 1) * 6 + j - 6 = i * 6 + j from by omega]
    exact flat6_at (fun cs hc => h cs (by simp [hc])) hi hj
theorem made6 (k : Nat) : (madeCells (Value.agg zfile.toArray).cells (k * 6)).toList = (List.replicate k zfile).flatten := by
  have hz : (Value.agg zfile.toArray).cells = zfile.toArray := rfl
  rw [hz]
  refine List.ext_getElem? fun j => ?_
  by_cases hj : j < k * 6
  · have h1 := flat6_at (css := List.replicate k zfile) (i := j / 6) (j := j % 6) (cs := zfile) (fun cs hc => by rw [(List.mem_replicate.1 hc).2]; rfl) (by rw [List.getElem?_replicate, if_pos (by omega)]) (by omega)
    rw [show j / 6 * 6 + j % 6 = j from by omega] at h1
    have hl : zfile.toArray.size = 6 := rfl
    have h2 : (madeCells zfile.toArray (k * 6)).toList[j]? = some (zfile.toArray[j % 6]!) := by
      simp [madeCells, hj, hl]
    rw [h1, h2]
    have h3 : j % 6 < 6 := by omega
    generalize j % 6 = i at h3
    match i, h3 with
    | 0, _ => rfl
    | 1, _ => rfl
    | 2, _ => rfl
    | 3, _ => rfl
    | 4, _ => rfl
    | 5, _ => rfl
  · rw [List.getElem?_eq_none (by simp [size_madeCells]; omega), List.getElem?_eq_none (by rw [flat6 (fun cs hc => by rw [(List.mem_replicate.1 hc).2]; rfl), List.length_replicate]; omega)]
structure RK (G : Gh) (w : World) (r : Nat) (P I : List Bool) : Prop where
  own : G.own r = 0
  p4 : P.length <= 4096
  i5 : I.length <= 512
  at_ : ∃ pv iv, w.heap[r]? = some (.cells #[.int .i64 P.length, .int .i64 I.length, pv, iv] 124 (0, 0)) /\ Zero G w pv (bls P) /\ Zero G w iv (bls I)
theorem RK.ext {K : Nat -> Prop} {G G' : Gh} {w w' : World} {r : Nat} {P I : List Bool} (h : RK G w r P I) (hx : Ext K G w G' w') (h0 : ¬ K 0) : RK G' w' r P I := by
  obtain ⟨h2, h4, h5, pv, iv, h6, h7, h8⟩ := h
  have hlt := hx.lt h6
  exact ⟨by rw [hx.own r hlt]; exact h2, h4, h5, pv, iv, hx.heap h6 (by rw [h2]; exact h0), h7.ext hx h0, h8.ext hx h0⟩
structure RS (G : Gh) (w : World) (r k : Nat) : Prop where
  own : G.own r = 11
  fix : G.fix r = 0
  at_ : ∃ M lv KM kv P I P2 I2, w.heap[r]? = some (.cells #[.pointer (some ⟨M, 0, none⟩), lv, .pointer (some ⟨KM, 0, none⟩), kv] 131 (0, 0)) /\ RM G 8 w M P I /\ I.length = k /\ RK G w KM P2 I2 /\ I2.length = k /\ RFs G w lv k /\ RFs G w kv k
theorem RS.ext {K : Nat -> Prop} {G G' : Gh} {w w' : World} {r k : Nat} (h : RS G w r k) (hx : Ext K G w G' w') (h0 : ¬ K 0) (h8 : ¬ K 8) (h11 : ¬ K 11) : RS G' w' r k := by
  obtain ⟨h1, h2, M, lv, KM, kv, P, I, P2, I2, h3, h4, h5, h6, h7, h9, h10⟩ := h
  have hlt := hx.lt h3
  exact ⟨by rw [hx.own r hlt]; exact h1, by rw [hx.fixe r hlt (by rw [h1]; exact h11)]; exact h2, M, lv, KM, kv, P, I, P2, I2, hx.heap h3 (by rw [h1]; exact h11), h4.ext hx h8 h0, h5, h6.ext hx h0, h7, h9.ext hx h0, h10.ext hx h0⟩
def RI (G : Gh) (w : World) (r : Nat) (I : List Bool) : Prop := ∃ M P, w.cell? ⟨r, 0, none⟩ = some (.pointer (some ⟨M, 0, none⟩)) /\ RM G 8 w M P I
section
variable {G : Gh} {w : World} {r M : Nat} {P I : List Bool}
theorem rmfork_spec {pv iv : Value} (o : Nat) (hM : w.heap[M]? = some (.cells #[.int .i64 P.length, .int .i64 I.length, pv, iv] 124 (0, 0))) (hpc : isCell pv = true) (hic : isCell iv = true) :
    Calls Tryz.prog 81 #[.pointer (some ⟨M, 0, none⟩)] w (Ret fun v w' => ∃ f, v = .pointer (some ⟨f, 0, none⟩) /\ w.heap.size <= f /\ w'.heap[f]? = some (.cells #[.int .i64 P.length, .int .i64 I.length, pv, iv] 124 (0, 0)) /\ Grow w w') := by
  apply enter81
  apply R_in
  have hl4 := loadN4b hM
  have hg : Grow w (w.alloc (.cells (Value.agg #[.int .i64 0, .int .i64 0, .slice none 0 0, .slice none 0 0]).cells 124)) := (Keep.refl _ _).alloc _
  have hb := heap_alloc_new w (.cells (Value.agg #[.int .i64 0, .int .i64 0, .slice none 0 0, .slice none 0 0]).cells 124)
  have hcl : ∀ u ∈ [Value.int .i64 P.length, .int .i64 I.length, pv, iv], isCell u = true := by
    intro u hu
    simp at hu
    rcases hu with rfl | rfl | rfl | rfl
    · rfl
    · rfl
    · exact hpc
    · exact hic
  obtain ⟨w2, hs2, hb2, hk2⟩ := storeN_cells [Value.int .i64 P.length, .int .i64 I.length, pv, iv] _ _ 0 hb (by simp [Value.cells]) hcl
  have st2 : stnF (w.alloc (.cells (Value.agg #[.int .i64 0, .int .i64 0, .slice none 0 0, .slice none 0 0]).cells 124)) 4 (.pointer (some ⟨w.heap.size, 0, none⟩)) (.agg #[.int .i64 P.length, .int .i64 I.length, pv, iv]) = some (undef, w2) := by
    have hs2' := hs2
    simp only [stnF, Value.cells]
    show (if (4 : Nat) = 4 then _ else _) = _
    rw [if_pos rfl]
    exact congrArg (Option.map fun w => (undef, w)) hs2'
  simp (maxSteps := 999999) (disch := omega) only [↓sy1, sZ, readOK, Nat.reduceEqDiff, ↓reduceIte, oneOf, Nat.reduceAdd, Nat.reduceMul, reduceCtorEq, F81, hl4, st2]
  refine R_out ⟨w.heap.size, rfl, Nat.le_refl _, ?_, hg.then hk2 (fun b hb hh => by omega)⟩
  rw [hb2]; rfl
end
section
variable {G : Gh} {w : World} {r k : Nat}
structure RS0 (G : Gh) (w : World) (r k : Nat) : Prop where
  own : G.own r = 11
  fix : G.fix r = 0
  at_ : ∃ M lv kmv kv P I, w.heap[r]? = some (.cells #[.pointer (some ⟨M, 0, none⟩), lv, kmv, kv] 131 (0, 0)) /\ RM G 8 w M P I /\ I.length = k /\ RFs G w lv k
theorem RS.zero (h : RS G w r k) : RS0 G w r k := by
  obtain ⟨h1, h2, M, lv, KM, kv, P, I, P2, I2, h3, h4, h5, h6, h7, h9, h10⟩ := h
  exact ⟨h1, h2, M, lv, _, kv, P, I, h3, h4, h5, h9⟩
theorem RFs.isCell {v : Value} (h : RFs G w v k) : isCell v = true := by obtain ⟨css, _, h2, _⟩ := h; exact h2.1.isCell
set_option maxHeartbeats 1000000 in
theorem rs_commit (h : RS0 G w r k) : Calls Tryz.prog 39 #[.pointer (some ⟨r, 0, none⟩)] w (Ret fun _ w' => ∃ G', RS G' w' r k /\ Ext (fun x => x = 11) G w G' w' /\ Keep (fun b => b = r) w w' /\ (∀ b, b < w.heap.size -> G'.own b = G.own b /\ G'.fix b = G.fix b) /\ ∀ J, RI G w r J -> RI G' w' r J) := by
  obtain ⟨h1, h2, M, lv, kmv, kv, P, I, h3, h4, h5, h6⟩ := h
  obtain ⟨r1, r2, r3, r4, r5, pv, iv, hM, hpz, hiz⟩ := id h4
  apply enter39
  apply R_in
  simp (maxSteps := 999999) (disch := omega) only [↓sy1, sZ, readOK, Nat.reduceEqDiff, ↓reduceIte, oneOf, Nat.reduceAdd, Nat.reduceMul, reduceCtorEq, F39]
  refine draw39_0 (fun _ => False) ?_
  have hgd : Grow w w.drew := (Keep.refl _ _).drew
  have hxd : Ext0 G w G w.drew := .grow hgd
  have h3d := hgd.gheap h3
  have hMd := hgd.gheap hM
  generalize w.drew = w0 at hgd hxd h3d hMd |-
  have hc0 : w0.cell? ⟨r, 0, none⟩ = some (.pointer (some ⟨M, 0, none⟩)) := by rw [cell_block h3d]; rfl
  have hc1 : w0.cell? ⟨r, 1, none⟩ = some lv := by rw [cell_block h3d]; rfl
  simp (maxSteps := 999999) (disch := omega) only [↓sy1, sZ, readOK, Nat.reduceEqDiff, ↓reduceIte, oneOf, Nat.reduceAdd, Nat.reduceMul, reduceCtorEq, PL39_0, hc0, hc1]
  refine call0 (rmfork_spec 0 hMd hpz.1.isCell hiz.1.isCell) ?_
  rintro _ w1 ⟨f, rfl, hf, hF, hg1⟩
  have hx1 : Ext0 G w (G.upto w0.heap.size (fun _ => 0) (fun _ => 0)) w1 := hxd.trans (.upto hg1 _ _)
  have hof := upto_own (G := G) (o := 0) (f := 0) hf
  have hrl : r < w.heap.size := (Array.getElem?_eq_some_iff.1 h3).1
  have hgf : ∀ b, b < w.heap.size -> (G.upto w0.heap.size (fun _ => 0) (fun _ => 0)).own b = G.own b /\ (G.upto w0.heap.size (fun _ => 0) (fun _ => 0)).fix b = G.fix b := fun b hb => ⟨hx1.own b hb, hx1.fixe b hb id⟩
  have hk1 : Keep (fun b => b = r) w w1 := (hgd.trans hg1).grow
  have ho : (G.upto w0.heap.size (fun _ => 0) (fun _ => 0)).own r = 11 /\ (G.upto w0.heap.size (fun _ => 0) (fun _ => 0)).fix r = 0 := by
    rw [hx1.own r hrl, hx1.fixe r hrl id]; exact ⟨h1, h2⟩
  have h4' := h4.ext hx1 id id
  have h6' := h6.ext hx1 id
  have hK : RK (G.upto w0.heap.size (fun _ => 0) (fun _ => 0)) w1 f P I := ⟨hof.1, r4, r5, pv, iv, hF, hpz.ext hx1 id, hiz.ext hx1 id⟩
  have h3' := hg1.gheap h3d
  generalize (G.upto w0.heap.size (fun _ => 0) (fun _ => 0)) = G1 at hx1 ho h4' h6' hK hgf
  obtain ⟨w2, st2, hb2, hk2⟩ := cell_store (i := 2) h3' (by simp) (u := .pointer (some ⟨f, 0, none⟩)) rfl
  obtain ⟨w3, st3, hb3, hk3⟩ := cell_store (i := 3) hb2 (by simp) (u := lv) h6.isCell
  have hx3 : Ext (fun x => x = 11) G1 w1 G1 w3 := .on0 (hk2.trans hk3) ho.1 ho.2
  simp (maxSteps := 999999) (disch := omega) only [↓sy1, sZ, readOK, Nat.reduceEqDiff, ↓reduceIte, oneOf, Nat.reduceAdd, Nat.reduceMul, reduceCtorEq, st2, st3]
  refine ⟨hg1, R_out ⟨G1, ⟨ho.1, ho.2, M, lv, f, lv, P, I, P, I, ?_, h4'.ext hx3 (by omega) (by omega), h5, hK.ext hx3 (by omega), h5, h6'.ext hx3 (by omega), h6'.ext hx3 (by omega)⟩, (hx1.mono fE).trans hx3, (hk1.trans hk2).trans hk3, hgf, ?_⟩⟩
  · rw [hb3]; rfl
  · rintro J ⟨M', P', hc', hM'⟩
    have hMM : M' = M := by
      rw [cell_block h3] at hc'
      simp at hc'
      exact hc'.symm
    subst hMM
    exact ⟨_, P', by rw [cell_block hb3]; rfl, (hM'.ext hx1 id id).ext hx3 (by omega) (by omega)⟩
theorem mkF_rule {kk : Kont} {e : Env} {w : World} {l : List GOp} {d : Option Nat} {x y : Operand} {n : Nat} {ty : TypeId} (hx : ev e x = .int .i64 n) (hy : ev e y = .int .i64 n) (hn : n <= 5000)
    (hh : ∀ v w', Grow w w' -> w'.ownsRow w.heap.size 138 6 v n (List.replicate n zfile).flatten -> R (symOps Tryz.prog l kk (updO e d v) w')) :
    R (symOps Tryz.prog (⟨d, .hard (H (.makeSlice 129 x y) ty), none⟩ :: l) kk e w) := by
  obtain ⟨i, hi, hz, hsz, hby⟩ := elemRF.hi
  have hr := run_make (P := Tryz.prog) w 129 138 i (.agg zfile.toArray) elemRF.ht hi hz .i64 .i64 n n (by omega) (by omega) (by rw [hby]; omega) (by omega)
  rw [hsz, Int.toNat_natCast] at hr
  have hfl : (List.replicate n zfile).flatten.length = n * 6 := by rw [flat6 (fun cs hc => by rw [(List.mem_replicate.1 hc).2]; rfl), List.length_replicate]
  refine hard_rule (by simp only [execOp, H, hx, hy, Sem.run_bind, hr, Result.andThen_ok]; rfl) (hh _ _ ((Keep.refl _ _).alloc _) ⟨hfl, .inr ⟨w.heap.size, n, _, rfl, Nat.le_refl _, heap_alloc_new w _, Nat.le_refl _, by unfold maxLen; omega, by simp [size_madeCells], ?_⟩⟩)
  rw [made6, List.take_of_length_le (by rw [hfl]; exact Nat.le_refl _)]
set_option maxHeartbeats 1000000 in
theorem rs_new {M : Nat} {P I : List Bool} (h : RM G 8 w M P I) : Calls Tryz.prog 24 #[.pointer (some ⟨M, 0, none⟩)] w (Ret fun v w' => ∃ r G', v = .pointer (some ⟨r, 0, none⟩) /\ (RS G' w' r I.length /\ RI G' w' r I) /\ Ext0 G w G' w') := by
  have h5 := h.i5
  apply enter24
  apply R_in
  simp (maxSteps := 999999) (disch := omega) only [↓sy1, sZ, readOK, Nat.reduceEqDiff, ↓reduceIte, oneOf, Nat.reduceAdd, Nat.reduceMul, reduceCtorEq, F24]
  refine call0 (rinodes_spec h) ?_
  rintro _ w1 ⟨rfl, hw1⟩
  subst w1
  simp (maxSteps := 999999) (disch := omega) only [↓sy1, sZ, readOK, Nat.reduceEqDiff, ↓reduceIte, oneOf, Nat.reduceAdd, Nat.reduceMul, reduceCtorEq]
  refine mkF_rule (n := I.length) (by simp only [upd_at, Nat.reduceEqDiff, reduceIte, ev_tmp, ev_const, List.map_cons, List.map_nil]) (by simp only [upd_at, Nat.reduceEqDiff, reduceIte, ev_tmp, ev_const, List.map_cons, List.map_nil]) (by omega) ?_
  intro lv w1 hg1 hlv
  have hlc : isCell lv = true := (Has.own hlv).isCell
  have hg2 : Grow w1 (w1.alloc (.cells #[.pointer (some ⟨M, 0, none⟩), lv, .pointer none, .slice none 0 0] 131)) := (Keep.refl _ _).alloc _
  have hb2 := heap_alloc_new w1 (.cells #[.pointer (some ⟨M, 0, none⟩), lv, .pointer none, .slice none 0 0] 131)
  have hfl : fillF #[.pointer none, .slice none 0 0, .pointer none, .slice none 0 0] [(0, 1, .pointer (some ⟨M, 0, none⟩)), (1, 1, lv)] = some #[.pointer (some ⟨M, 0, none⟩), lv, .pointer none, .slice none 0 0] := by
    cases lv <;> first | rfl | cases hlc
  have hcl : (Value.agg #[.pointer (some ⟨M, 0, none⟩), lv, .pointer none, .slice none 0 0]).cells = #[.pointer (some ⟨M, 0, none⟩), lv, .pointer none, .slice none 0 0] := rfl
  simp (maxSteps := 999999) (disch := omega) only [↓sy1, sZ, readOK, Nat.reduceEqDiff, ↓reduceIte, oneOf, Nat.reduceAdd, Nat.reduceMul, reduceCtorEq, fill_gen, hfl, hcl]
  have hx2 : Ext0 G w (G.upto w.heap.size (fun b => if b = w1.heap.size then 11 else 0) (fun _ => 0)) (w1.alloc (.cells #[.pointer (some ⟨M, 0, none⟩), lv, .pointer none, .slice none 0 0] 131)) := .upto (hg1.trans hg2) _ _
  have hs1 := hg1.size
  have ho2 : (G.upto w.heap.size (fun b => if b = w1.heap.size then 11 else 0) (fun _ => 0)).own w1.heap.size = 11 /\ (G.upto w.heap.size (fun b => if b = w1.heap.size then 11 else 0) (fun _ => 0)).fix w1.heap.size = 0 := by simp [Gh.upto, Nat.not_lt.2 hs1]
  have hrow : ∀ b, lv.ownBlock = some b -> (G.upto w.heap.size (fun b => if b = w1.heap.size then 11 else 0) (fun _ => 0)).own b = 0 := fun b hb => by
    have := World.ownsRow.lt hlv b hb
    simp [Gh.upto, Nat.not_lt.2 this.1, show b ≠ w1.heap.size from by omega]
  generalize (G.upto w.heap.size (fun b => if b = w1.heap.size then 11 else 0) (fun _ => 0)) = G2 at hx2 ho2 hrow
  have hsz2 : (w1.alloc (.cells #[.pointer (some ⟨M, 0, none⟩), lv, .pointer none, .slice none 0 0] 131)).heap.size = w1.heap.size + 1 := by simp
  have hlv2 : Has 6 (w1.alloc (.cells #[.pointer (some ⟨M, 0, none⟩), lv, .pointer none, .slice none 0 0] 131)) lv (List.replicate I.length zfile).flatten := (Has.own hlv).grow hg2
  generalize (w1.alloc (.cells #[.pointer (some ⟨M, 0, none⟩), lv, .pointer none, .slice none 0 0] 131)) = w2 at hg2 hb2 hx2 hsz2 hlv2 |-
  have hR0 : RS0 G2 w2 w1.heap.size I.length := ⟨ho2.1, ho2.2, M, lv, _, _, P, I, hb2, h.ext hx2 id id, rfl, List.replicate I.length zfile, by simp, ⟨hlv2, fun b hb _ => ⟨by have := (World.ownsRow.lt hlv b hb).2; omega, hrow b hb⟩⟩, fun cs hc => by rw [(List.mem_replicate.1 hc).2]; exact RF.zero _ _⟩
  refine call0 (rs_commit hR0) ?_
  rintro _ w3 ⟨G3, hR3, hx3, hk3, hg3, hri⟩
  simp (maxSteps := 999999) (disch := omega) only [↓sy1, sZ, readOK, Nat.reduceEqDiff, ↓reduceIte, oneOf, Nat.reduceAdd, Nat.reduceMul, reduceCtorEq]
  refine R_out ⟨w1.heap.size, G3, rfl, ⟨hR3, hri I ⟨M, P, by rw [cell_block hb2]; rfl, h.ext hx2 id id⟩⟩, ?_⟩
  have hg03 : Grow w w3 := (hg1.trans hg2).then hk3 (fun b hb hh => by omega)
  exact .ofGrow hg03 (fun b hb => ((hg3 b (by omega)).1).trans (hx2.own b hb)) (fun b hb => ((hg3 b (by omega)).2).trans (hx2.fixe b hb id))
end
abbrev KN : Nat -> Prop := fun x => x ≠ 0 /\ x ≠ 13
theorem KN.of {K : Nat -> Prop} (h : ¬(K 0 \/ K 13)) : ∀ x, K x -> KN x := fun x hx => ⟨fun hh => h (.inl (hh ▸ hx)), fun hh => h (.inr (hh ▸ hx))⟩
def ic (pages most : Nat) : Csh := Csh.new (Dsk.zero (pages + 101)) 100 most
theorem ic_N (pages most : Nat) : (ic pages most).N = pages := by show (Dsk.zero (pages + 101)).first.length - 100 - 1 = pages; rw [zero_len]; omega
theorem ic_dirty (pages most : Nat) : (ic pages most).dirty = [] := Csh.new_dirty _ _ _
theorem ic_cap (pages most : Nat) : (ic pages most).cap = 100 := rfl
theorem ic_ops (pages most : Nat) : (ic pages most).D.ops.length = 0 := rfl
theorem upto1_false {n N i : Nat} (h : n <= i) : (upto1 n N)[i]? ≠ some true := by
  intro hh
  have hlt := (List.getElem?_eq_some_iff.1 hh).1
  rw [upto1_length] at hlt
  rw [upto1_get hlt, decide_eq_false (by omega)] at hh
  cases hh
theorem fs_none {c : Csh} {k : Nat} (h : Alc c (upto1 (3 + k / 8) c.N) (upto1 1 k)) : FsOk c (upto1 (3 + k / 8) c.N) (upto1 1 k) (fun _ => none) (fun _ => []) := by
  refine ⟨h, ⟨fun i o h => (by cases h), fun i h1 h2 => absurd h2 (upto1_false h1), fun i o n h => (by cases h), fun i j o o' n h => (by cases h), fun i o h => (by cases h), fun n hn hP => ?_⟩, fun i o h => (by cases h), fun i o h => (by cases h)⟩
  rw [upto1_length] at hn
  exact absurd hP (upto1_false hn)
structure Fresh6 (G : Gh) (w : World) (s m p lq pages k : Nat) (c : Csh) : Prop where
  ino : Ino G 2 7 w s m p lq 0 c (upto1 (3 + k / 8) pages) (upto1 1 k) (fun _ => none) (fun _ => [])
  N : c.N = pages
  cap : c.cap = 100
  dirty : c.dirty = []
  ops : c.D.ops.length <= 206
set_option maxHeartbeats 4000000 in
theorem opened_specG (G : Gh) {w : World} {pages : Nat} (h1 : 6 <= pages) (h2 : pages <= 3900) :
    Calls Tryz.prog 5 #[.int .i64 pages] w (Ret fun v w' => ∃ s r m p lq c G', v = .tuple #[.pointer (some ⟨s, 0, none⟩), .pointer (some ⟨r, 0, none⟩), .bool true] /\ Fresh6 G' w' s m p lq pages 16 c /\ (RS G' w' r 16 /\ RI G' w' r (upto1 1 16)) /\ Ext KN G w G' w') := by
  have hmay : mayA pages ((16 : Nat) : Int) := by unfold mayA; omega
  apply enter5
  apply R_in
  simp (maxSteps := 999999) (disch := omega) only [↓sy1, sZ, readOK, Nat.reduceEqDiff, ↓reduceIte, oneOf, Nat.reduceAdd, Nat.reduceMul, reduceCtorEq, F5]
  rw [show (pages : Int) + 101 = ((pages + 101 : Nat) : Int) from by omega]
  refine call0 (new_spec G 1 (n := pages + 101) (by omega) (by omega)) ?_
  rintro _ w1 ⟨p0, G1, rfl, hp1, hd1, hx1⟩
  simp (maxSteps := 999999) (disch := omega) only [↓sy1, sZ, readOK, Nat.reduceEqDiff, ↓reduceIte, oneOf, Nat.reduceAdd, Nat.reduceMul, reduceCtorEq]
  refine call0 (open_spec (size := 100) 2 (by omega) hd1 (by omega) (by rw [zero_len]; omega) (.inl (zero_image (by omega)))) ?_
  rintro _ w2 ⟨lq, G2, rfl, hq2, hl2, hx2⟩
  simp (maxSteps := 999999) (disch := omega) only [↓sy1, sZ, readOK, Nat.reduceEqDiff, ↓reduceIte, oneOf, Nat.reduceAdd, Nat.reduceMul, reduceCtorEq]
  refine call0 (cnew_spec (most := 16) 7 (by omega) (by omega) hl2 (zero_flat _) (zero_calm (by omega)) (by omega) (by omega)) ?_
  rintro _ w3 ⟨p, G3, rfl, hp3, hc3, hx3⟩
  simp (maxSteps := 999999) (disch := omega) only [↓sy1, sZ, readOK, Nat.reduceEqDiff, ↓reduceIte, oneOf, Nat.reduceAdd, Nat.reduceMul, reduceCtorEq]
  have hN := ic_N pages 16
  have hdr := ic_dirty pages 16
  have hcap := ic_cap pages 16
  have hops := ic_ops pages 16
  have hc3' : CacheS G3 2 7 w3 p lq 0 (ic pages 16) := hc3.s
  generalize ic pages 16 = c0 at hN hdr hcap hops hc3'
  refine call0 (make_ok hc3' (by omega) (k := 16) (by rw [hN]; exact hmay) (by rw [hdr, hcap]; simp)) ?_
  rintro _ w4 ⟨m, G4, c4, rfl, hm4, h4, hst4, hx4⟩
  obtain ⟨t1, t2, t3, t4, t5⟩ := hst4
  rw [<- t1] at h4
  simp (maxSteps := 999999) (disch := omega) only [↓sy1, sZ, readOK, Nat.reduceEqDiff, ↓reduceIte, oneOf, Nat.reduceAdd, Nat.reduceMul, reduceCtorEq]
  refine call0 (inew_spec G4 w4 m) ?_
  rintro _ w5 ⟨s, G5, rfl, hs5, hso5, hx5⟩
  have h5 := h4.ext hx5 id id id
  simp (maxSteps := 999999) (disch := omega) only [↓sy1, sZ, readOK, Nat.reduceEqDiff, ↓reduceIte, oneOf, Nat.reduceAdd, Nat.reduceMul, reduceCtorEq]
  refine call0 (rmake_spec (N := pages) (k := 16) G5 8 (by omega) hmay) ?_
  rintro _ w6 ⟨r0, G6, rfl, hr6, hx6⟩
  have h6 := h5.ext hx6 id id id
  have hso6 := hso5.ext hx6 id
  simp (maxSteps := 999999) (disch := omega) only [↓sy1, sZ, readOK, Nat.reduceEqDiff, ↓reduceIte, oneOf, Nat.reduceAdd, Nat.reduceMul, reduceCtorEq, dz]
  refine call0 (mcommit_ok h6 (by rw [t2]; omega)) ?_
  rintro _ w7 ⟨rfl, G7, hx7, h7⟩
  have hcf := commit_facts h6.1.cache.oks
  obtain ⟨q1, q2, q3, q4, q5⟩ := hcf
  have hso7 := hso6.ext hx7 (by omega)
  have hr7 := hr6.ext hx7 (by omega) (by omega)
  have hfs := (fs_none h6.2).commit h6.1.cache.oks
  simp (maxSteps := 999999) (disch := omega) only [↓sy1, sZ, readOK, Nat.reduceEqDiff, ↓reduceIte, oneOf, Nat.reduceAdd, Nat.reduceMul, reduceCtorEq, dz]
  refine call0 (rs_new hr7) ?_
  rintro _ w8 ⟨r, G8, rfl, hR8, hx8⟩
  simp (maxSteps := 999999) (disch := omega) only [↓sy1, sZ, readOK, Nat.reduceEqDiff, ↓reduceIte, oneOf, Nat.reduceAdd, Nat.reduceMul, reduceCtorEq]
  have hN4 : c4.N = pages := by rw [t1, hN]
  rw [hN4] at h7 hfs
  have hR8' := hR8.1
  rw [upto1_length] at hR8' hfs
  refine R_out ⟨s, r, m, p, lq, c4.commit, G8, rfl, ⟨⟨h7.ext hx8 id id id, hso7.ext hx8 id, hfs.1, by rw [upto1_length]; exact hfs.2⟩, by rw [q1, hN4], by rw [q3, t4, hcap], q2, by rw [t2, hops] at q5; exact q5⟩, ⟨hR8', hR8.2⟩, ?_⟩
  exact (((((((hx1.mono fE).trans (hx2.mono fE)).trans (hx3.mono fE)).trans (hx4.mono (KN.of (by omega)))).trans (hx5.mono fE)).trans (hx6.mono fE)).trans (hx7.mono (KN.of (by omega)))).trans (hx8.mono fE)
theorem opened_spec {w : World} {pages : Nat} (h1 : 6 <= pages) (h2 : pages <= 3900) :
    Calls Tryz.prog 5 #[.int .i64 pages] w (Ret fun v w' => ∃ s r m p lq c G', v = .tuple #[.pointer (some ⟨s, 0, none⟩), .pointer (some ⟨r, 0, none⟩), .bool true] /\ Fresh6 G' w' s m p lq pages 16 c /\ (RS G' w' r 16 /\ RI G' w' r (upto1 1 16)) /\ Ext KN G00 w G' w') := opened_specG G00 h1 h2
end Go.Proofs.YtddiikeepncakabGreat
