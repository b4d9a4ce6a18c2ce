/- A flush upon the sectors: the walk. -/
import Derived.Test.YtneehlkofcdhoaaOnW
namespace Go.Proofs.Ytneehlkofcdhoaa
open Go
set_option linter.unusedSimpArgs false
open Go.RowKit (intOf)
theorem iterSeen_of {w : World} {r b c : Nat} {a : Option Nat} {s : Array Nat} (h : w.heap[r]? = some (.mapIter a b s c)) : w.iterSeen r = s := by simp [World.iterSeen, h]
theorem Ext.thenNew {K : Nat → Prop} {S : Nat → Prop} {G G' : Gh} {w w2 w3 : World} (h : Ext K G w G' w2) (hk : Keep S w2 w3) (hs : ∀ b, S b → w.heap.size ≤ b) : Ext K G w G' w3 :=
  ⟨hk.os.trans h.os, hk.tape.trans h.tape, hk.output.trans h.output, Nat.le_trans h.size hk.size, h.own, h.fix, h.fixe,
    fun b hb hn => (hk.blk b (Nat.lt_of_lt_of_le hb h.size) (fun hc => by have := hs b hc; omega)).trans (h.blk b hb hn),
    fun b i v hb hi hc => hk.cell (h.pre b i v hb hi hc) (fun hc' => by have := hs b hc'; omega)⟩
/-- A block without cells may change as it will: what is read stays. -/
theorem Ext.any {r : Nat} {G : Gh} {w w' : World} (hk : Keep (fun b => b = r) w w') (hn : ∀ i v, w.cell? ⟨r, i, none⟩ ≠ some v) : Ext (fun _ => True) G w G w' :=
  ⟨hk.os, hk.tape, hk.output, hk.size, fun _ _ => rfl, fun _ _ => Nat.le_refl _, fun _ _ _ => rfl, fun _ _ h => absurd trivial h, fun b i v _ _ hc => by
    by_cases h : b = r
    · subst h; exact absurd hc (hn i v)
    · exact hk.cell hc h⟩
theorem SafeAt.at {G : Gh} {κ : Nat} {w : World} {v : Value} {ls : List (List UInt8)} (h : SafeAt G κ w v ls) : ∃ sb c, v.ownBlock = some sb ∧ w.heap[sb]? = some (.cells c 28 (0, 0)) ∧ G.own sb = κ ∧ G.fix sb = 0 := by
  obtain ⟨us, sb, h1, ⟨_, ⟨rfl, _⟩ | ⟨g, cap, cur, rfl, _, h12, _⟩⟩, _, h4, h5⟩ := h
  · cases h1
  · cases h1; exact ⟨_, cur, rfl, h12, h4, h5⟩
/-- It stands, when a block that has no rows has changed. -/
theorem SafeAt.keepNo {G : Gh} {κ r : Nat} {w w' : World} {v : Value} {ls : List (List UInt8)} (h : SafeAt G κ w v ls) (hk : Keep (fun b => b = r) w w') (hn : ∀ i v, w.cell? ⟨r, i, none⟩ ≠ some v) (hr : ∀ c t f, w.heap[r]? ≠ some (.cells c t f)) : SafeAt G κ w' v ls := by
  obtain ⟨sb', c', h1', h2', _⟩ := h.at
  obtain ⟨us, sb, h1, h2, h3, h4, h5⟩ := h
  rw [h1] at h1'; cases h1'
  exact ⟨us, _, h1, own_keep h2 hk (fun b hb hbr => by rw [h1] at hb; cases hb; subst hbr; exact hr _ _ _ h2'), h3.ext (Ext.any hk hn), h4, h5⟩
/-- One round of a loop over a map. -/
def MStep (r m clk : Nat) (es : Array MapEntry) (I : List Nat → Env → World → Prop) (w : World) (e' : Env) (w' : World) : Prop :=
  (∃ seen, w'.heap[r]? = some (.mapIter (some m) clk seen.toArray clk) ∧ I seen e' w') ∧
    (es.toList.filter fun y => !(w'.iterSeen r).contains y.born).length < (es.toList.filter fun y => !(w.iterSeen r).contains y.born).length
theorem MStep.mk {r m clk : Nat} {es : Array MapEntry} {I : List Nat → Env → World → Prop} {w : World} {e' : Env} {w' : World} {seen : List Nat} {y : MapEntry} (hs : w.heap[r]? = some (.mapIter (some m) clk seen.toArray clk)) (hy : y ∈ es.toList) (hn : y.born ∉ seen)
    (hs' : w'.heap[r]? = some (.mapIter (some m) clk (seen ++ [y.born]).toArray clk)) (hI : I (seen ++ [y.born]) e' w') : MStep r m clk es I w e' w' := by
  refine ⟨⟨_, hs', hI⟩, ?_⟩
  simp only [iterSeen_of hs, iterSeen_of hs']
  refine filter_lt _ _ (fun x hx => ?_) y ?_ ?_ _ hy
  · simp at hx ⊢; exact hx.1
  · simpa using hn
  · simp
/-- A loop over a map that it does not write. -/
theorem mloop_rule {n : Nat} {P : Program} {k : Kont} {e : Env} {w : World} {c : SCode} {r m clk : Nat} {es : Array MapEntry} (I : List Nat → Env → World → Prop) (hr : w.heap[r]? = some (.mapIter (some m) clk #[] clk)) (h0 : I [] e w)
    (round : ∀ seen e w, w.heap[r]? = some (.mapIter (some m) clk seen.toArray clk) → I seen e w → R (symS n P c ⟨fun e' w' => MStep r m clk es I w e' w', k.x, k.r, k.p⟩ e w)) : R (symS n P (.loop c) k e w) := by
  refine loop_rule (fun e w => ∃ seen, w.heap[r]? = some (.mapIter (some m) clk seen.toArray clk) ∧ I seen e w) (fun _ w => (es.toList.filter fun y => !(w.iterSeen r).contains y.born).length) ⟨[], hr, h0⟩ ?_
  rintro e w ⟨seen, hs, hI⟩
  exact round seen e w hs hI
open Classical in
/-- What waits at the sectors that have been seen. -/
noncomputable def doneQ (es : List MapEntry) (seen : List Nat) (q : Nat → List (List UInt8)) : Nat → List (List UInt8) :=
  fun n => if ∃ y ∈ es, y.born ∈ seen ∧ y.key = .int .i64 (n : Nat) then q n else []
theorem flushed_none (s : List (List UInt8)) : flushed s (fun _ => []) = s := by
  refine List.ext_getElem (by simp [flushed]) (fun i h1 h2 => by simp [flushed, lastOr])
theorem flushed_step {es : List MapEntry} {seen : List Nat} {q : Nat → List (List UInt8)} {ls : List (List UInt8)} {y : MapEntry} {n : Nat} (hy : y ∈ es) (hk : y.key = .int .i64 (n : Nat)) (hb : es.Pairwise fun a b => a.born ≠ b.born) (hne : q n ≠ []) (hn : n < ls.length) :
    flushed ls (doneQ es (seen ++ [y.born]) q) = (flushed ls (doneQ es seen q)).set n ((q n).getLast hne) := by
  refine List.ext_getElem (by simp [flushed]) (fun i h1 h2 => ?_)
  rw [List.getElem_set]
  simp only [flushed, List.getElem_mapIdx]
  by_cases h : n = i
  · subst h
    rw [if_pos rfl]
    have : doneQ es (seen ++ [y.born]) q n = q n := by
      unfold doneQ; rw [if_pos ⟨y, hy, by simp, hk⟩]
    rw [this, lastOr, List.getLast?_eq_some_getLast hne]; rfl
  · rw [if_neg h]
    have : doneQ es (seen ++ [y.born]) q i = doneQ es seen q i := by
      unfold doneQ
      congr 1
      refine propext ⟨fun ⟨z, hz, hzb, hzk⟩ => ?_, fun ⟨z, hz, hzb, hzk⟩ => ⟨z, hz, by simp [hzb], hzk⟩⟩
      rcases List.mem_append.1 hzb with hzb | hzb
      · exact ⟨z, hz, hzb, hzk⟩
      · simp at hzb
        have hzy : z = y := by
          obtain ⟨a, ha, rfl⟩ := List.getElem_of_mem hz
          obtain ⟨c, hc, rfl⟩ := List.getElem_of_mem hy
          rw [List.pairwise_iff_getElem] at hb
          rcases Nat.lt_trichotomy a c with hlt | heq | hlt
          · exact absurd hzb (hb a c ha hc hlt)
          · subst heq; rfl
          · exact absurd hzb.symm (hb c a hc ha hlt)
        subst hzy
        rw [hk] at hzk; simp at hzk; omega
    rw [this]
theorem flushed_all {es : List MapEntry} {seen : List Nat} {q : Nat → List (List UInt8)} {ls : List (List UInt8)} (hall : ∀ y ∈ es, y.born ∈ seen) (hhas : ∀ n, q n ≠ [] → ∃ y ∈ es, y.key = .int .i64 (n : Nat)) : flushed ls (doneQ es seen q) = flushed ls q := by
  have : doneQ es seen q = q := by
    funext n
    unfold doneQ
    split
    · rfl
    · rename_i h
      by_cases hq : q n = []
      · exact hq.symm
      · obtain ⟨y, hy, hk⟩ := hhas n hq
        exact absurd ⟨y, hy, hall y hy, hk⟩ h
  rw [this]

theorem onFlush_spec {G : Gh} {κ p m : Nat} {w : World} {vf vl vs : Value} {ls : List (List UInt8)} {q : Nat → List (List UInt8)} (hp : w.heap[p]? = some (.cells #[vf, vl, vs, .map (some m)] 94 (0, 0)))
    (hq : WaitAt G κ w m q) (hs : SafeAt G κ w vs ls) (hin : ∀ n, q n ≠ [] → n < ls.length) (hlq : ∀ n, (q n).length ≤ 1000000) :
    Calls Try.prog 131 #[.agg #[], .pointer (some ⟨p, 2, none⟩)] w (Ret fun v w' => v = .tuple #[] ∧ WaitAt G κ w' m (fun _ => []) ∧ SafeAt G κ w' vs (flushed ls q) ∧ Ext (fun c => c = κ) G w G w' ∧ w'.heap[p]? = some (.cells #[vf, vl, vs, .map (some m)] 94 (0, 0))) := by
  apply enter131
  apply R_in
  simp (maxSteps := 600000) (disch := omega) only [F131, ↓sy1, sy2, sy3, readOK, sy5, sy6, Nat.reduceEqDiff, ↓reduceIte, sy7, sy8, sy9, sya, oneOf, syb, syc, Nat.reduceAdd, Nat.reduceMul, syd, sye, syf, syg, syh, reduceCtorEq]
  have hg0 : Grow w (w.alloc (.cells (Value.agg #[]).cells 113)) := (Keep.refl _ _).alloc _
  generalize w.alloc (.cells (Value.agg #[]).cells 113) = w0 at hg0 ⊢
  have hp0 := hg0.gheap hp
  have hc1 : w0.cell? ⟨p, 3, none⟩ = some (.map (some m)) := by rw [cell_block hp0]; rfl
  obtain ⟨es, clk, hes, hom, hok, hall, hhas, hsp⟩ := hq
  have hml : m < w.heap.size := (Array.getElem?_eq_some_iff.1 hes).1
  have hunder : Try.prog.underlying 90 = some (.map 3 46) := by kernel_rfl
  simp (maxSteps := 600000) (disch := omega) only [↓sy1, sy2, sy3, readOK, sy5, sy6, Nat.reduceEqDiff, ↓reduceIte, sy7, sy8, sy9, sya, oneOf, syb, syc, Nat.reduceAdd, Nat.reduceMul, syd, sye, syf, syg, syh, reduceCtorEq, hc1]
  refine range_rule (m := m) (by simp only [upd_at, Nat.reduceEqDiff, reduceIte, ev_tmp, ev_const, List.map_cons, List.map_nil]) hunder (hg0.gheap hes) ?_
  have hg1 : Grow w (w0.alloc (.mapIter (some m) clk #[] clk)) := hg0.trans ((Keep.refl _ _).alloc _)
  have hr1 := heap_alloc_new w0 (.mapIter (some m) clk #[] clk)
  have hrw := hg0.size
  generalize w0.alloc (.mapIter (some m) clk #[] clk) = w1 at hg1 hr1 ⊢
  generalize w0.heap.size = r at hr1 hrw ⊢
  simp (maxSteps := 600000) (disch := omega) only [↓sy1, sy2, sy3, readOK, sy5, sy6, Nat.reduceEqDiff, ↓reduceIte, sy7, sy8, sy9, sya, oneOf, syb, syc, Nat.reduceAdd, Nat.reduceMul, syd, sye, syf, syg, syh, reduceCtorEq]
  refine mloop_rule (r := r) (m := m) (clk := clk) (es := es) (fun seen e w' => e 1 = .pointer (some ⟨p, 2, none⟩) ∧ e 10 = .pointer (some ⟨r, 0, none⟩) ∧ Ext (fun c => c = κ) G w G w' ∧ w'.heap[p]? = w.heap[p]? ∧ w'.heap[m]? = w.heap[m]? ∧ SafeAt G κ w' vs (flushed ls (doneQ es.toList seen q)))
    hr1 ⟨by simp [upd], by simp [upd], .grow hg1, (hg1.gheap hp).trans hp.symm, (hg1.gheap hes).trans hes.symm, ?_⟩ ?_
  · have : doneQ es.toList [] q = fun _ => [] := by funext n; simp [doneQ]
    rw [this, flushed_none]
    exact hs.ext (K := fun _ => False) (.grow hg1) id
  rintro seen e w2 hr2 ⟨h1, h10, hx, hp2, hm2, hs2⟩
  simp (maxSteps := 600000) (disch := omega) only [F131_L0, ↓sy1, sy2, sy3, readOK, sy5, sy6, Nat.reduceEqDiff, ↓reduceIte, sy7, sy8, sy9, sya, oneOf, syb, syc, Nat.reduceAdd, Nat.reduceMul, syd, sye, syf, syg, syh, reduceCtorEq]
  refine next_rule (by simp only [ev_tmp, h10]) hr2 (hm2.trans hes) hok (fun hend => ?_) (fun y hy hyn w3 hk3 hr3 => ?_)
  · have hc2 : w2.cell? ⟨p, 3, none⟩ = some (.map (some m)) := by rw [cell_block (hp2.trans hp)]; rfl
    simp (maxSteps := 600000) (disch := omega) only [↓sy1, sy2, sy3, readOK, sy5, sy6, Nat.reduceEqDiff, ↓reduceIte, sy7, sy8, sy9, sya, oneOf, syb, syc, Nat.reduceAdd, Nat.reduceMul, syd, sye, syf, syg, syh, reduceCtorEq, h1, hc2]
    refine clear_rule (m := m) (by simp only [upd_at, Nat.reduceEqDiff, reduceIte, ev_tmp, ev_const, List.map_cons, List.map_nil]) hunder (hm2.trans hes) (fun w3 hk3 hm3 => ?_)
    have hx3 : Ext (fun c => c = κ) G w2 G w3 := .onMap (hm2.trans hes) hk3 hom
    refine R_out ⟨⟨#[], clk, hm3, hom, ⟨by simp, by simp, by simp⟩, by simp, fun n hn => absurd rfl hn, by simp⟩, ?_, hx.trans hx3, ?_⟩
    · rw [← flushed_all hend hhas]
      exact hs2.keepNo hk3 (fun i v => by simp [World.cell?, hm2.trans hes]) (fun c t f => by rw [hm2.trans hes]; simp)
    · have hpm : p ≠ m := fun hc => by rw [hc, hes] at hp; cases hp
      exact (hk3.blk p (hx.lt hp |> fun h => Nat.lt_of_lt_of_le h hx.size) hpm).trans (hp2.trans hp)
  · obtain ⟨n, hyk, hyw⟩ := hall y hy
    obtain ⟨us, b, c, hyv, hu1, hu2, hne, _⟩ := hyw
    have hlen := hu2.length
    have hpos : 0 < (q n).length := List.length_pos_iff.2 hne
    have hnl := hin n hne
    have hno : ∀ i v, w2.cell? ⟨r, i, none⟩ ≠ some v := fun i v => by simp [World.cell?, hr2]
    have hs3 := hs2.keepNo hk3 hno (fun c t f => by rw [hr2]; simp)
    have hx3 : Ext (fun c => c = κ) G w G w3.drew := (hx.thenNew hk3 (fun b h => by omega)).drew
    have hpr : p ≠ r := fun hc => by have := (Array.getElem?_eq_some_iff.1 hp).1; omega
    have hmr : m ≠ r := by omega
    have hp3 : w3.drew.heap[p]? = w.heap[p]? := (hk3.blk p (Nat.lt_of_lt_of_le (Array.getElem?_eq_some_iff.1 hp).1 hx.size) hpr).trans hp2
    have hm3 : w3.drew.heap[m]? = w.heap[m]? := (hk3.blk m (Nat.lt_of_lt_of_le hml hx.size) hmr).trans hm2
    simp (maxSteps := 600000) (disch := omega) only [↓sy1, sy2, sy3, readOK, sy5, sy6, Nat.reduceEqDiff, ↓reduceIte, sy7, sy8, sy9, sya, oneOf, syb, syc, Nat.reduceAdd, Nat.reduceMul, syd, sye, syf, syg, syh, reduceCtorEq]
    refine entry_rule (by simp only [upd_at, Nat.reduceEqDiff, reduceIte, ev_tmp, ev_const, List.map_cons, List.map_nil, h10]) hr3 (hm3.trans hes) hok hy ?_
    simp (maxSteps := 600000) (disch := omega) only [↓sy1, sy2, sy3, readOK, sy5, sy6, Nat.reduceEqDiff, ↓reduceIte, sy7, sy8, sy9, sya, oneOf, syb, syc, Nat.reduceAdd, Nat.reduceMul, syd, sye, syf, syg, syh, reduceCtorEq, hyk]
    refine draw131_0 (fun _ => False) ?_
    have hr4 : w3.drew.heap[r]? = _ := hr3
    have hs4 : SafeAt G κ w3.drew vs (flushed ls (doneQ es.toList seen q)) := hs3.ext (K := fun _ => False) (.grow (Keep.refl _ _).drew) id
    generalize w3.drew = w4 at hx3 hp3 hm3 hr4 hs4 ⊢
    have hc4 : w4.cell? ⟨p, 2, none⟩ = some vs := by rw [cell_block (hp3.trans hp)]; rfl
    have huv := hu1.ext hx3
    have hrow := hu2.ext hx3
    obtain ⟨a, ha, hac, _⟩ := huv.1.idx (i := (q n).length - 1) (by omega)
    have hrb := hrow.get ((q n).length - 1) (by omega) (by omega)
    have hcast : ((us.length : Int) - 1) = (((q n).length - 1 : Nat) : Int) := by omega
    have hlast : (q n)[(q n).length - 1] = (q n).getLast hne := (List.getLast_eq_getElem hne).symm
    rw [hlast] at hrb
    generalize us[(q n).length - 1] = u at hac hrb
    obtain ⟨ts, sb, h4, h5, h6, h7, h8⟩ := hs4
    have hnl' : n < (flushed ls (doneQ es.toList seen q)).length := by rw [flushed_length]; exact hnl
    obtain ⟨a2, w5, ha2, hst, ho5, hk5, hb5⟩ := own_store h5 hnl' hrb.1.isCell
    have hlq' := hlq n
    simp (maxSteps := 600000) (disch := omega) only [PL131_0, ↓sy1, sy2, sy3, readOK, sy5, sy6, Nat.reduceEqDiff, ↓reduceIte, sy7, sy8, sy9, sya, oneOf, syb, syc, Nat.reduceAdd, Nat.reduceMul, syd, sye, syf, syg, syh, reduceCtorEq, h1, hc4, huv.1.len, hcast, ha, hac, ha2, hst]
    have hk5' : Keep (fun b => b = sb) w4 w5 := hk5.mono (fun b _ h => by rw [h4] at h; cases h; rfl)
    have hsl := World.ownsRow.lt h5 sb h4
    obtain ⟨sb', c', h1', h2', _⟩ := SafeAt.at ⟨ts, sb, h4, h5, h6, h7, h8⟩
    rw [h4] at h1'; cases h1'
    have hx5 : Ext (fun c => c = κ) G w4 G w5 := .on0 hk5' h7 h8
    have hps : p ≠ sb := fun hc => by rw [← hc, hp3.trans hp] at h2'; simp at h2'
    have hms : m ≠ sb := fun hc => by rw [← hc, hm3.trans hes] at h2'; cases h2'
    have hrs : r ≠ sb := fun hc => by rw [← hc, hr4] at h2'; cases h2'
    refine R_out (MStep.mk hr2 hy hyn (hk5'.heap hr4 hrs) ⟨by simp [upd, h1], by simp [upd, h10], hx3.trans hx5, (hk5'.blk p (hx3.lt hp |> fun h => Nat.lt_of_lt_of_le h hx3.size) hps).trans hp3, (hk5'.blk m (Nat.lt_of_lt_of_le hml hx3.size) hms).trans hm3, ?_⟩)
    rw [flushed_step hy hyk hok.born hne hnl]
    exact ⟨ts.set n u, sb, h4, by simpa using ho5, (h6.ext hx5).set n (hrb.ext hx5), h7, h8⟩
end Go.Proofs.Ytneehlkofcdhoaa
