/- Texts of one claim, put together in their order: what each proves stands ahead of it. -/
import Derived.Test.YtbnecclognibaaaGreatMd
import Derived.Test.YtbnecclognibaaaGreatMc
import Derived.Laws.ComplexArith
import Derived.Laws.BytesString
import Derived.Laws.Strings
import Derived.Laws.CopyRow
/- A cache: all that was written is committed. -/
namespace Go.Proofs.YtbnecclognibaaaGreat
open Go
set_option linter.unusedSimpArgs false
open Go.RowKit (intOf)
section
variable {G : Gh} {κ μ p lq came : Nat} {w : World} {c : Csh}
/-- What is read stays, when it is committed. -/
theorem Csh.commit_image (hc : c.Ok) {n : Nat} (hn : n < c.N) : c.commit.D.image.getD (c.size + 1 + n) [] = c.page n := by
  have hlen : c.dirtyL.length ≤ c.size := by have := hc.room; rw [Csh.dirtyL_length]; simp only [Csh.cap] at this; omega
  have hN : c.N = c.D.first.length - c.size - 1 := rfl
  by_cases hd : c.dirty = []
  · have hq : c.q n = none := by
      cases hq : c.q n with
      | none => rfl
      | some b =>
        have : n ∈ c.dirty := mem_keysQ.2 ⟨hn, b, hq⟩
        rw [hd] at this; cases this
    simp [Csh.commit, hd, Csh.page, hq]
  · have hD : c.commit.D = grouped c.size c.D c.dirtyL := by simp [Csh.commit, hd]
    rw [hD, List.getD_eq_getElem?_getD]
    cases hq : c.q n with
    | none =>
      rw [grouped_other hlen (by omega) (fun p hp he => by
        obtain ⟨m, b⟩ := p
        have := (Csh.mem_dirtyL hc).1 hp
        simp only at he
        have hmn : m = n := by omega
        subst hmn; rw [hq] at this; cases this)]
      simp [Csh.page, hq, List.getD_eq_getElem?_getD]
    | some b =>
      have := grouped_page (size := c.size) (D := c.D) (ps := c.dirtyL) (p := (n, b)) (by rw [Csh.dirtyL_fst]; exact nodup_lt (keysQ_rise _ _)) (fun p hp => by
        obtain ⟨m, b'⟩ := p
        have := (hc.q m b' ((Csh.mem_dirtyL hc).1 hp)).1
        simp only; omega) ((Csh.mem_dirtyL hc).2 hq)
      simp only at this
      rw [this]; simp [Csh.page, hq]
theorem Csh.commit_clean (hc : c.Ok) : cleanQ c.commit.D c.size c.row = cleanQ c.D c.size c.row := by
  funext n
  unfold cleanQ
  split
  · rename_i hm
    obtain ⟨h1, h2⟩ := hc.row n hm
    rw [Csh.commit_image hc h1]; simp [Csh.page, h2]
  · rfl
theorem MapOk.one {es : List MapEntry} {clk : Nat} (h : MapOk es clk) {y z : MapEntry} (hy : y ∈ es) (hz : z ∈ es) (hk : y.key = z.key) : y = z := by
  obtain ⟨i, hi, rfl⟩ := List.getElem_of_mem hy
  obtain ⟨j, hj, rfl⟩ := List.getElem_of_mem hz
  have hp := List.pairwise_iff_getElem.1 h.keys
  rcases Nat.lt_trichotomy i j with hlt | rfl | hlt
  · exact absurd hk (hp i j hi hj hlt)
  · rfl
  · exact absurd hk.symm (hp j i hj hi hlt)
/-- The pages that have been seen. -/
structure SeenP (es : List MapEntry) (seen : List Nat) (q : Nat → Option (List UInt8)) (ps : List Pg) : Prop where
  sound : ∀ p ∈ ps, ∃ n b, q n = some b ∧ p = ((n : Int), b) ∧ ∃ y ∈ es, y.born ∈ seen ∧ y.key = .int .i64 (n : Nat)
  full : ∀ y ∈ es, y.born ∈ seen → ∃ (n : Nat) (b : List UInt8), y.key = .int .i64 n ∧ q n = some b ∧ ((n : Int), b) ∈ ps
  nodup : (ps.map (·.1)).Nodup
theorem SeenP.nil (es : List MapEntry) (q : Nat → Option (List UInt8)) : SeenP es [] q [] := ⟨by simp, by simp, by simp⟩
theorem SeenP.snoc {es : List MapEntry} {clk : Nat} {seen : List Nat} {q : Nat → Option (List UInt8)} {ps : List Pg} (h : SeenP es seen q ps) (hok : MapOk es clk) {y : MapEntry} {n : Nat} {b : List UInt8} (hy : y ∈ es) (hyn : y.born ∉ seen) (hk : y.key = .int .i64 (n : Nat)) (hq : q n = some b) : SeenP es (seen ++ [y.born]) q (ps ++ [((n : Int), b)]) := by
  obtain ⟨h1, h2, h3⟩ := h
  have hno : ∀ p ∈ ps, p.1 ≠ (n : Int) := fun p hp he => by
    obtain ⟨m, b', _, rfl, z, hz, hzs, hzk⟩ := h1 p hp
    simp only at he
    have hmn : m = n := by omega
    subst hmn
    have := hok.one hy hz (by rw [hk, hzk])
    subst this; exact hyn hzs
  refine ⟨fun p hp => ?_, fun z hz hzs => ?_, ?_⟩
  · rcases List.mem_append.1 hp with hp | hp
    · obtain ⟨m, b', k1, k2, z, k3, k4, k5⟩ := h1 p hp
      exact ⟨m, b', k1, k2, z, k3, by simp [k4], k5⟩
    · simp at hp; subst hp
      exact ⟨n, b, hq, rfl, y, hy, by simp, hk⟩
  · rcases List.mem_append.1 hzs with hzs | hzs
    · obtain ⟨m, b', k1, k2, k3⟩ := h2 z hz hzs
      exact ⟨m, b', k1, k2, by simp [k3]⟩
    · simp at hzs
      have hzy : z = y := by
        have hb := hok.born
        obtain ⟨i, hi, rfl⟩ := List.getElem_of_mem hz
        obtain ⟨j, hj, rfl⟩ := List.getElem_of_mem hy
        have hp := List.pairwise_iff_getElem.1 hb
        rcases Nat.lt_trichotomy i j with hlt | rfl | hlt
        · exact absurd hzs (by have := hp i j hi hj hlt; omega)
        · rfl
        · exact absurd hzs.symm (by have := hp j i hj hi hlt; omega)
      subst hzy
      exact ⟨n, b, hk, hq, by simp⟩
  · rw [List.map_append, List.nodup_append]
    refine ⟨h3, by simp, fun a ha d hd => ?_⟩
    simp at hd; subst hd
    obtain ⟨p, hp, rfl⟩ := List.mem_map.1 ha
    exact hno p hp
theorem SeenP.group (hc : c.Ok) {es : List MapEntry} {seen : List Nat} {ps : List Pg} (h : SeenP es seen c.q ps) (hall : ∀ y ∈ es, y.born ∈ seen) (hhas : ∀ n b, c.q n = some b → ∃ e ∈ es, e.key = .int .i64 (n : Nat)) : c.group ps := by
  obtain ⟨h1, h2, h3⟩ := h
  have hnd : ∀ {l : List Pg}, (l.map (·.1)).Nodup → l.Nodup := fun {l} hl => by
    unfold List.Nodup at hl ⊢
    rw [List.pairwise_map] at hl
    exact hl.imp (fun hab hc => hab (by rw [hc]))
  refine (List.perm_ext_iff_of_nodup (hnd h3) (hnd ?_)).2 fun p => ?_
  · rw [List.map_map]
    have h4 : (c.dirtyL.map (·.1)).Pairwise (· < ·) := by rw [Csh.dirtyL_fst]; exact keysQ_rise _ _
    rw [List.pairwise_map] at h4
    unfold List.Nodup
    rw [List.pairwise_map]
    exact h4.imp (fun hab => by simp only [Function.comp]; omega)
  · rw [List.mem_map]
    constructor
    · intro hp
      obtain ⟨n, b, hq, rfl, _⟩ := h1 p hp
      exact ⟨(n, b), (Csh.mem_dirtyL hc).2 hq, rfl⟩
    · rintro ⟨⟨n, b⟩, hm, rfl⟩
      have hq := (Csh.mem_dirtyL hc).1 hm
      obtain ⟨y, hy, hk⟩ := hhas n b hq
      obtain ⟨n', b', k1, k2, k3⟩ := h2 y hy (hall y hy)
      rw [hk] at k1
      have := key_inj k1; subst this
      rw [hq] at k2; cases k2
      exact k3
theorem SeenP.few (hc : c.Ok) {es : List MapEntry} {seen : List Nat} {ps : List Pg} (h : SeenP es seen c.q ps) : ps.length ≤ 100 := by
  have h1 : (ps.map (·.1)).length ≤ (c.dirty.map fun n : Nat => (n : Int)).length := by
    refine List.Nodup.length_le_of_subset h.nodup (fun a ha => ?_)
    obtain ⟨p, hp, rfl⟩ := List.mem_map.1 ha
    obtain ⟨n, b, hq, rfl, _⟩ := h.sound p hp
    exact List.mem_map.2 ⟨n, mem_keysQ.2 ⟨(hc.q n b hq).1, b, hq⟩, rfl⟩
  rw [List.length_map, List.length_map] at h1
  have := hc.room
  simp only [Csh.cap] at this; omega
set_option maxHeartbeats 4000000 in
theorem ccommit_spec (h : CacheAt G κ μ w p lq came c) (ho : c.D.ops.length < 700000) :
    Calls Tryz.prog 11 #[.pointer (some ⟨p, 0, none⟩)] w (Ret fun v w' => v = .int .i64 0 ∧ ∃ G', CacheAt G' κ μ w' p lq came c.commit ∧ Ext (fun x => x = κ ∨ x = μ) G w G' w') := by
  obtain ⟨hok, hM⟩ := id h
  obtain ⟨k1, k2, k3, k4, dm, cm, rv, k5, k6, k7, k8, k9, k10, k11⟩ := id hM
  obtain ⟨es, clk, hes, hdo, hdf, hmok, hq1, hq2⟩ := id k9
  have hκ0 : κ ≠ 0 := k4.1
  have hc2 : w.cell? ⟨p, 2, none⟩ = some (.map (some dm)) := by rw [cell_block k5]; rfl
  apply enter11
  apply R_in
  simp (maxSteps := 1000000) (disch := omega) only [↓sy1, sy2, sy3, readOK, sy5, sy6, Nat.reduceEqDiff, ↓reduceIte, sy7, sy8, sy9, sya, oneOf, syb, syc, Nat.reduceAdd, Nat.reduceMul, syd, sye, syf, syg, syh, reduceCtorEq, F11, hc2]
  refine range_rule (m := dm) (by simp only [upd_at, Nat.reduceEqDiff, reduceIte, ev_tmp, ev_const, List.map_cons, List.map_nil]) underM hes ?_
  have hg1 : Grow w (w.alloc (.mapIter (some dm) clk #[] clk)) := (Keep.refl _ _).alloc _
  have hr1 := heap_alloc_new w (.mapIter (some dm) clk #[] clk)
  have hs1 : (w.alloc (.mapIter (some dm) clk #[] clk)).heap.size = w.heap.size + 1 := by simp
  generalize w.alloc (.mapIter (some dm) clk #[] clk) = w1 at hg1 hr1 hs1 ⊢
  simp (maxSteps := 1000000) (disch := omega) only [↓sy1, sy2, sy3, readOK, sy5, sy6, Nat.reduceEqDiff, ↓reduceIte, sy7, sy8, sy9, sya, oneOf, syb, syc, Nat.reduceAdd, Nat.reduceMul, syd, sye, syf, syg, syh, reduceCtorEq]
  refine mloop_rule (r := w.heap.size) (m := dm) (clk := clk) (es := es) (fun seen e w' => ∃ (ps : List Pg) (xs : List Value), e 0 = .pointer (some ⟨p, 0, none⟩) ∧ e 13 = .pointer (some ⟨w.heap.size, 0, none⟩) ∧ Grow w w' ∧ w'.ownsRow (w.heap.size + 1) 79 2 (e 3) ps.length xs ∧ w.heap.size + 1 ≤ w'.heap.size ∧
      xs.length = 2 * ps.length ∧ (∀ i (h : i < ps.length), xs[2 * i]? = some (.int .i64 ps[i].1) ∧ ∃ u, xs[2 * i + 1]? = some u ∧ HasZ G w u ps[i].2) ∧ SeenP es.toList seen c.q ps)
    hr1 ⟨[], [], by simp [upd, updO, ev], by simp [upd, updO, ev], hg1, by simpa [upd, updO, ev] using World.ownsRow_nil w1 _ _ _, by omega, rfl, by simp, SeenP.nil _ _⟩ ?_
  rintro seen e w2 hr2 ⟨ps, xs, e0, e13, hg2, ho2, hs2, hxl, hxs, hseen⟩
  have hfew := hseen.few hok
  simp (maxSteps := 1000000) (disch := omega) only [↓sy1, sy2, sy3, readOK, sy5, sy6, Nat.reduceEqDiff, ↓reduceIte, sy7, sy8, sy9, sya, oneOf, syb, syc, Nat.reduceAdd, Nat.reduceMul, syd, sye, syf, syg, syh, reduceCtorEq, F11_L0, e0, e13]
  refine next_rule (by simp only [upd_at, Nat.reduceEqDiff, reduceIte, ev_tmp, ev_const, List.map_cons, List.map_nil, e13]) hr2 (hg2.gheap hes) hmok (fun hend => ?_) (fun y hy hyn w3 hk3 hr3 => ?_)
  · have hgrp := hseen.group hok hend hq2
    obtain ⟨hcode, hdone⟩ := Csh.group_code hok hgrp
    have hp2 := hg2.gheap k5
    have hc0 : w2.cell? ⟨p, 0, none⟩ = some (.pointer (some ⟨lq, 0, none⟩)) := by rw [cell_block hp2]; rfl
    have hx2 : Ext0 G w (G.new w.heap.size) w2 := .newB hg2
    have hM2 := hM.ext hx2 id id id
    have hP : PagesH (G.new w.heap.size) κ w2 (e 3) ps xs := by
      refine ⟨Has.own ho2, hxl, fun b hb _ => ?_, fun i hi => ?_⟩
      · obtain ⟨h1, h2⟩ := World.ownsRow.lt ho2 b hb
        exact ⟨h2, by rw [Gh.new_own (by omega)]; exact hκ0.symm⟩
      · obtain ⟨h1, u, h2, h3⟩ := hxs i hi
        exact ⟨h1, u, h2, (h3.ext hx2).held hκ0⟩
    simp (maxSteps := 1000000) (disch := omega) only [↓sy1, sy2, sy3, readOK, sy5, sy6, Nat.reduceEqDiff, ↓reduceIte, sy7, sy8, sy9, sya, oneOf, syb, syc, Nat.reduceAdd, Nat.reduceMul, syd, sye, syf, syg, syh, reduceCtorEq, e0, hc0]
    refine call0 (commit_spec hM2.log hP (by omega) ho) ?_
    rintro _ w3 ⟨rfl, G3, hl3, hx3⟩
    rw [hcode]
    rw [hdone] at hl3
    have hM3 := hM2.put hx3 hl3
    obtain ⟨m1, m2, m3, m4, dm', cm', rv', m5, m6, m7, m8, m9, m10, m11⟩ := hM3
    have hc2' : w3.cell? ⟨p, 2, none⟩ = some (.map (some dm')) := by rw [cell_block m5]; rfl
    simp (maxSteps := 1000000) (disch := omega) only [↓sy1, sy2, sy3, readOK, sy5, sy6, Nat.reduceEqDiff, ↓reduceIte, sy7, sy8, sy9, sya, oneOf, syb, syc, Nat.reduceAdd, Nat.reduceMul, syd, sye, syf, syg, syh, reduceCtorEq, e0, hc2', decide_true]
    refine m9.clear (by simp only [upd_at, Nat.reduceEqDiff, reduceIte, ev_tmp, ev_const, List.map_cons, List.map_nil]) underM (fun w4 hx4 hk4 h9' => ?_)
    have hpm : p ≠ dm' := fun hc => by
      obtain ⟨es, clk, r1, _⟩ := m9
      rw [← hc, m5] at r1; cases r1
    have hdo' : G3.own dm' = μ ∧ G3.fix dm' = 0 := by obtain ⟨es, clk, _, r2, r3, _⟩ := m9; exact ⟨r2, r3⟩
    have hrow : RowI G3 μ w4 rv' c.row := m11.keep1 hk4 (by
      obtain ⟨es, clk, r1, _⟩ := m9
      exact m11.ne r1 (fun c t f hc => by cases hc))
    simp (maxSteps := 1000000) (disch := omega) only [↓sy1, sy2, sy3, readOK, sy5, sy6, Nat.reduceEqDiff, ↓reduceIte, sy7, sy8, sy9, sya, oneOf, syb, syc, Nat.reduceAdd, Nat.reduceMul, syd, sye, syf, syg, syh, reduceCtorEq]
    refine R_out ⟨G3, ⟨hok.commit ?_, m1, m2, m3, m4.ext hx4 m1 (fun h => m2 h.symm), dm', cm', rv', hk4.heap m5 hpm, m6, m7, m8, h9', ?_, hrow⟩, ?_⟩
    · exact hl3.cells.choose_spec.1.ok
    · show BMap G3 μ w4 cm' (cleanQ c.commit.D c.size c.row)
      rw [Csh.commit_clean hok]
      exact m10.keep1 hk4 (fun h => m8 h.symm) hdo'.1 hdo'.2
    · exact ((hx2.mono (κ' := fun x => x = κ ∨ x = μ) (fun _ h => h.elim)).trans (hx3.mono (fun _ h => .inl h))).trans (hx4.mono (fun _ h => .inr h))
  · obtain ⟨n, b, hyk, hyq, hyv⟩ := hq1 y hy
    have hbc := hyv.1.1.isCell
    have hg3 : Grow w w3 := hg2.then hk3 (fun b hb h => by omega)
    have ho3 := own_keepk ho2 hk3 (fun b hb hbr => by have := (World.ownsRow.lt ho2 b hb).1; omega)
    have hs3 := hk3.size
    simp (maxSteps := 1000000) (disch := omega) only [↓sy1, sy2, sy3, readOK, sy5, sy6, Nat.reduceEqDiff, ↓reduceIte, sy7, sy8, sy9, sya, oneOf, syb, syc, Nat.reduceAdd, Nat.reduceMul, syd, sye, syf, syg, syh, reduceCtorEq]
    refine entry_rule (by simp only [upd_at, Nat.reduceEqDiff, reduceIte, ev_tmp, ev_const, List.map_cons, List.map_nil, e13]) hr3 (hg3.gheap hes) hmok hy ?_
    simp (maxSteps := 1000000) (disch := omega) only [↓sy1, sy2, sy3, readOK, sy5, sy6, Nat.reduceEqDiff, ↓reduceIte, sy7, sy8, sy9, sya, oneOf, syb, syc, Nat.reduceAdd, Nat.reduceMul, syd, sye, syf, syg, syh, reduceCtorEq, hyk, fill_gen, fillF_2 (a := .int .i64 0) (b := .slice none 0 0) (u := .int .i64 (n : Int)) rfl hbc, fill_of2, fillF_p (a := .int .i64 0) (b := .slice none 0 0)]
    have hgap : Grow w3 (w3.alloc (.cells #[.int .i64 (n : Int), y.val] 79)) := (Keep.refl _ _).alloc _
    refine app_own elemPg (by simp only [upd_at, Nat.reduceEqDiff, reduceIte, ev_tmp, ev_const, List.map_cons, List.map_nil]) (by simp only [upd_at, Nat.reduceEqDiff, reduceIte, ev_tmp, ev_const, List.map_cons, List.map_nil]) (own_keepk ho3 hgap (fun _ _ => id)) Has.newp (m := 1) rfl (by simpa [isCell] using hbc) (by omega) (by omega) (by have := hgap.size; omega) ?_
    intro out' w4 ho4 hg4
    simp (maxSteps := 1000000) (disch := omega) only [↓sy1, sy2, sy3, readOK, sy5, sy6, Nat.reduceEqDiff, ↓reduceIte, sy7, sy8, sy9, sya, oneOf, syb, syc, Nat.reduceAdd, Nat.reduceMul, syd, sye, syf, syg, syh, reduceCtorEq]
    have hk4 : Keep (fun b => some b = (e 3).ownBlock) w3 w4 := (Keep.grow hgap).trans (Keep.grown hg4)
    have hr4 := hk4.heap hr3 (fun hc => by have := (World.ownsRow.lt ho3 _ hc.symm).1; omega)
    refine R_out (MStep.mk hr2 hy hyn hr4 ⟨ps ++ [((n : Int), b)], xs ++ [.int .i64 n, y.val], by simp [upd, e0], by simp [upd, e13], hg3.then hk4 (fun b hb hc => by have := (World.ownsRow.lt ho3 b hc.symm).1; omega), by simpa [upd] using ho4, by have := hk4.size; omega, by simp [hxl]; omega, ?_, hseen.snoc hmok hy hyn hyk hyq⟩)
    intro j hj
    by_cases hji : j < ps.length
    · obtain ⟨h5, u', h6, h7⟩ := hxs j hji
      rw [List.getElem_append_left hji, List.getElem?_append_left (by omega), List.getElem?_append_left (by omega)]
      exact ⟨h5, u', h6, h7⟩
    · have hje : j = ps.length := by simp at hj; omega
      subst hje
      rw [List.getElem_append_right (Nat.le_refl _), List.getElem?_append_right (by omega), List.getElem?_append_right (by omega), show 2 * ps.length - xs.length = 0 from by omega, show 2 * ps.length + 1 - xs.length = 1 from by omega]
      simp only [Nat.sub_self, List.getElem_cons_zero]
      exact ⟨rfl, y.val, rfl, hyv⟩
end
end Go.Proofs.YtbnecclognibaaaGreat

/- A cache: it is made; what it tells; a nil one. -/
namespace Go.Proofs.YtbnecclognibaaaGreat
open Go
set_option linter.unusedSimpArgs false
open Go.RowKit (intOf)
theorem ints_cell (l : List Int) : ∀ u ∈ ints l, isCell u = true := fun u hu => by
  obtain ⟨n, _, rfl⟩ := List.mem_map.1 hu; rfl
section
variable {G : Gh} {κ μ p lq came : Nat} {w : World} {c : Csh}
theorem zs_rise {l : List Nat} (h : l.Pairwise (· < ·)) : (zs l).Pairwise (· < ·) := by
  rw [zs, List.pairwise_map]; exact h.imp (fun hab => by omega)
theorem zs_nodup {l : List Nat} (h : l.Nodup) : (zs l).Nodup := by
  unfold List.Nodup at h ⊢
  rw [zs, List.pairwise_map]; exact h.imp (fun hab => by omega)
theorem cdirty_spec (h : CacheAt G κ μ w p lq came c) :
    Calls Tryz.prog 62 #[.pointer (some ⟨p, 0, none⟩)] w (Ret fun v w' => w'.ownsRow w.heap.size 3 1 v c.dirty.length (ints (zs c.dirty)) ∧ Grow w w') := by
  obtain ⟨hok, hM⟩ := h
  obtain ⟨k1, k2, k3, k4, dm, cm, rv, k5, k6, k7, k8, k9, k10, k11⟩ := hM
  obtain ⟨es, clk, hes, hdo, hdf, hmok, hq⟩ := k9
  have hc2 : w.cell? ⟨p, 2, none⟩ = some (.map (some dm)) := by rw [cell_block k5]; rfl
  have hroom := hok.room
  simp only [Csh.cap] at hroom
  have hmost := hok.ok.most
  have hN : c.N = c.D.first.length - c.size - 1 := rfl
  obtain ⟨ks, hks, hperm⟩ := hq.keys hmok (N := c.N) (fun n b hb => (hok.q n b hb).1)
  have hkl : ks.length = c.dirty.length := hperm.length_eq
  apply enter62
  apply R_in
  simp (maxSteps := 1000000) (disch := omega) only [↓sy1, sy2, sy3, readOK, sy5, sy6, Nat.reduceEqDiff, ↓reduceIte, sy7, sy8, sy9, sya, oneOf, syb, syc, Nat.reduceAdd, Nat.reduceMul, syd, sye, syf, syg, syh, reduceCtorEq, F62, hc2]
  refine call0 keys_spec ?_
  rintro _ w1 ⟨rfl, rfl⟩
  have hg1 : Grow w (w.alloc (.cells #[.map (some dm)] 75)) := (Keep.refl _ _).alloc _
  have hb1 := heap_alloc_new w (.cells #[.map (some dm)] 75)
  generalize w.alloc (.cells #[.map (some dm)] 75) = w1 at hg1 hb1 ⊢
  simp (maxSteps := 1000000) (disch := omega) only [↓sy1, sy2, sy3, readOK, sy5, sy6, Nat.reduceEqDiff, ↓reduceIte, sy7, sy8, sy9, sya, oneOf, syb, syc, Nat.reduceAdd, Nat.reduceMul, syd, sye, syf, syg, syh, reduceCtorEq]
  refine call0 (sorted_spec (ks := zs ks) (by rw [cell_block hb1]; rfl) (hg1.gheap hes) hmok hks (fun a ha => ?_) (by simp; omega)) ?_
  · obtain ⟨n, hn, rfl⟩ := List.mem_map.1 ha
    have := (mem_keysQ.1 (hperm.mem_iff.1 hn)).1
    omega
  rintro v w2 ⟨hv, hg2⟩
  have hsort : sortI (zs ks) = zs c.dirty := sortI_eq (zs_nodup (hperm.nodup_iff.2 (nodup_lt (keysQ_rise _ _)))) (zs_rise (keysQ_rise _ _)) (fun a => by
    simp only [zs, List.mem_map]
    constructor
    · rintro ⟨n, hn, rfl⟩; exact ⟨n, hperm.mem_iff.1 hn, rfl⟩
    · rintro ⟨n, hn, rfl⟩; exact ⟨n, hperm.mem_iff.2 hn, rfl⟩)
  rw [hsort, show (zs ks).length = c.dirty.length from by simpa [zs] using hkl] at hv
  simp (maxSteps := 1000000) (disch := omega) only [↓sy1, sy2, sy3, readOK, sy5, sy6, Nat.reduceEqDiff, ↓reduceIte, sy7, sy8, sy9, sya, oneOf, syb, syc, Nat.reduceAdd, Nat.reduceMul, syd, sye, syf, syg, syh, reduceCtorEq]
  exact R_out ⟨own_base hv hg1.size, hg1.trans hg2⟩
end
/-- A new cache. -/
def Csh.new (D : Dsk) (size most : Nat) : Csh := ⟨D, size, most, fun _ => none, []⟩
theorem Csh.new_ok {D : Dsk} {size most : Nat} (hD : D.Ok) (s1 : 1 ≤ size) (s2 : size + 2 ≤ D.first.length) (m1 : 1 ≤ most) (m2 : most ≤ 64) (hf : Flat D) (hc : Calm D) : (Csh.new D size most).Ok :=
  ⟨hD, s1, s2, m1, m2, fun n b hb => (by cases hb), by rw [show (Csh.new D size most).dirty = [] from keysQ_none _]; exact Nat.zero_le _, List.nodup_nil, Nat.zero_le _, fun n hn => (by cases hn), hf, hc⟩
theorem fillF_cache {a b c d e x y z u : Value} (hx : isCell x = true) (hy : isCell y = true) (hz : isCell z = true) (hu : isCell u = true) : fillF #[a, b, c, d, e] [(0, 1, x), (1, 1, y), (2, 1, z), (3, 1, u)] = some #[x, y, z, u, e] := by
  rw [fillF_cell hx (by simp), fillF_cell hy (by simp), fillF_cell hz (by simp), fillF_cell hu (by simp), fillF_nil]; simp
theorem fillF_2of4 {a b c d x y : Value} (hx : isCell x = true) (hy : isCell y = true) : fillF #[a, b, c, d] [(0, 1, x), (1, 1, y)] = some #[x, y, c, d] := by
  rw [fillF_cell hx (by simp), fillF_cell hy (by simp), fillF_nil]; simp
theorem agg5_cells {x y z u v : Value} (hx : isCell x = true) (hy : isCell y = true) (hz : isCell z = true) (hu : isCell u = true) (hv : isCell v = true) : (Value.agg #[x, y, z, u, v]).cells = #[x, y, z, u, v] := by
  simp [Value.cells, isCell_cells hx, isCell_cells hy, isCell_cells hz, isCell_cells hu, isCell_cells hv]
theorem cnew_bad {w : World} {v : Value} {lq : Nat} {n : Int} (hn : n < 1 ∨ 64 < n) :
    Calls Tryz.prog 27 #[.pointer (some ⟨lq, 0, none⟩), .int .i64 n] w (Ret fun v w' => v = .tuple #[.pointer none, .int .i64 2] ∧ w' = w) := by
  apply enter27
  apply R_in
  by_cases h1 : n < 1
  · simp (maxSteps := 1000000) (disch := omega) only [↓sy1, sy2, sy3, readOK, sy5, sy6, Nat.reduceEqDiff, ↓reduceIte, sy7, sy8, sy9, sya, oneOf, syb, syc, Nat.reduceAdd, Nat.reduceMul, syd, sye, syf, syg, syh, reduceCtorEq, F27, h1, decide_true]
    exact R_out trivial
  · simp (maxSteps := 1000000) (disch := omega) only [↓sy1, sy2, sy3, readOK, sy5, sy6, Nat.reduceEqDiff, ↓reduceIte, sy7, sy8, sy9, sya, oneOf, syb, syc, Nat.reduceAdd, Nat.reduceMul, syd, sye, syf, syg, syh, reduceCtorEq, F27, h1, decide_false, show (64 : Int) < n from by omega, decide_true]
    exact R_out trivial
theorem cnew_nil {w : World} {n : Int} : Calls Tryz.prog 27 #[.pointer none, .int .i64 n] w (Ret fun v w' => v = .tuple #[.pointer none, .int .i64 1] ∧ w' = w) := by
  apply enter27
  apply R_in
  simp (maxSteps := 1000000) (disch := omega) only [↓sy1, sy2, sy3, readOK, sy5, sy6, Nat.reduceEqDiff, ↓reduceIte, sy7, sy8, sy9, sya, oneOf, syb, syc, Nat.reduceAdd, Nat.reduceMul, syd, sye, syf, syg, syh, reduceCtorEq, F27]
  exact R_out trivial
theorem cnew_spec {G : Gh} {κ : Nat} {w : World} {lq size came most : Nat} {D : Dsk} (μ : Nat) (hμ : μ ≠ 0) (hκ : κ ≠ μ) (h : LogAt G κ w lq size came D) (hf : Flat D) (hc : Calm D) (m1 : 1 ≤ most) (m2 : most ≤ 64) :
    Calls Tryz.prog 27 #[.pointer (some ⟨lq, 0, none⟩), .int .i64 most] w (Ret fun v w' => ∃ p G', v = .tuple #[.pointer (some ⟨p, 0, none⟩), .int .i64 0] ∧ w.heap.size ≤ p ∧ CacheAt G' κ μ w' p lq came (Csh.new D size most) ∧ Ext0 G w G' w') := by
  have hD := h.cells.choose_spec.1.ok
  have s1 := h.2.1
  have s2 := h.2.2.1
  apply enter27
  apply R_in
  simp (maxSteps := 1000000) (disch := omega) only [↓sy1, sy2, sy3, readOK, sy5, sy6, Nat.reduceEqDiff, ↓reduceIte, sy7, sy8, sy9, sya, oneOf, syb, syc, Nat.reduceAdd, Nat.reduceMul, syd, sye, syf, syg, syh, reduceCtorEq, F27, show ¬ ((most : Int) < 1) from by omega, show ¬ ((64 : Int) < (most : Int)) from by omega, decide_false, fill_gen, fillF_cache (x := .pointer (some ⟨lq, 0, none⟩)) (y := .int .i64 most) (z := .map (some w.heap.size)) (u := .map (some (w.alloc (.map #[] 0)).heap.size)) rfl rfl rfl rfl,
    agg5_cells (x := .pointer (some ⟨lq, 0, none⟩)) (y := .int .i64 most) (z := .map (some w.heap.size)) (u := .map (some (w.alloc (.map #[] 0)).heap.size)) (v := .slice none 0 0) rfl rfl rfl rfl rfl]
  have hg1 : Grow w (w.alloc (.map #[] 0)) := (Keep.refl _ _).alloc _
  have hm1 := heap_alloc_new w (.map #[] 0)
  have hs1 : (w.alloc (.map #[] 0)).heap.size = w.heap.size + 1 := by simp
  generalize w.alloc (.map #[] 0) = w1 at hg1 hm1 hs1 ⊢
  have hg2 : Grow w1 (w1.alloc (.map #[] 0)) := (Keep.refl _ _).alloc _
  have hm2 := heap_alloc_new w1 (.map #[] 0)
  have hs2 : (w1.alloc (.map #[] 0)).heap.size = w1.heap.size + 1 := by simp
  generalize w1.alloc (.map #[] 0) = w2 at hg2 hm2 hs2 ⊢
  have hg3 : Grow w2 (w2.alloc (.cells #[.pointer (some ⟨lq, 0, none⟩), .int .i64 most, .map (some w.heap.size), .map (some w1.heap.size), .slice none 0 0] 77)) := (Keep.refl _ _).alloc _
  have hp := heap_alloc_new w2 (.cells #[.pointer (some ⟨lq, 0, none⟩), .int .i64 most, .map (some w.heap.size), .map (some w1.heap.size), .slice none 0 0] 77)
  generalize w2.alloc (.cells #[.pointer (some ⟨lq, 0, none⟩), .int .i64 most, .map (some w.heap.size), .map (some w1.heap.size), .slice none 0 0] 77) = w3 at hg3 hp ⊢
  have hgw : Grow w w3 := (hg1.trans hg2).trans hg3
  have hx : Ext0 G w (G.upto w.heap.size (fun _ => μ) (fun _ => 0)) w3 := .upto hgw _ _
  have hno : ∀ b, w.heap.size ≤ b → (G.upto w.heap.size (fun _ => μ) (fun _ => 0)).own b = μ ∧ (G.upto w.heap.size (fun _ => μ) (fun _ => 0)).fix b = 0 := fun b hb => by simp [Gh.upto, Nat.not_lt.2 hb]
  refine R_out ⟨w2.heap.size, _, rfl, by omega, ⟨Csh.new_ok hD s1 s2 m1 m2 hf hc, hκ, hμ, by simp [Csh.new], h.ext hx id id, w.heap.size, w1.heap.size, .slice none 0 0, hp, (hno _ (by omega)).1, (hno _ (by omega)).2, by omega,
    .new ((hg2.trans hg3).gheap hm1) (hno _ (by omega)).1 (hno _ (by omega)).2, ?_, ?_⟩, hx⟩
  · have : cleanQ (Csh.new D size most).D (Csh.new D size most).size (Csh.new D size most).row = fun _ => none := by funext k; simp [cleanQ, Csh.new]
    rw [this]
    exact .new (hg3.gheap hm2) (hno _ (by omega)).1 (hno _ (by omega)).2
  · exact ⟨World.ownsRow_nil w3 _ _ _, fun b hb => (by cases hb)⟩
/-! A nil cache. -/
section
variable {w : World}
theorem cread_nil {n : Int} : Calls Tryz.prog 59 #[.pointer none, .int .i64 n] w (Ret fun v w' => v = .tuple #[.slice none 0 0, .int .i64 1] ∧ w' = w) := by
  have hlook : Calls Tryz.prog 64 #[.pointer none, .int .i64 n] w (Ret fun v w' => v = .int .i64 1 ∧ w' = w) := by
    apply enter64
    apply R_in
    simp (maxSteps := 1000000) (disch := omega) only [↓sy1, sy2, sy3, readOK, sy5, sy6, Nat.reduceEqDiff, ↓reduceIte, sy7, sy8, sy9, sya, oneOf, syb, syc, Nat.reduceAdd, Nat.reduceMul, syd, sye, syf, syg, syh, reduceCtorEq, F64]
    exact R_out trivial
  apply enter59
  apply R_in
  simp (maxSteps := 1000000) (disch := omega) only [↓sy1, sy2, sy3, readOK, sy5, sy6, Nat.reduceEqDiff, ↓reduceIte, sy7, sy8, sy9, sya, oneOf, syb, syc, Nat.reduceAdd, Nat.reduceMul, syd, sye, syf, syg, syh, reduceCtorEq, F59]
  refine call0 hlook ?_
  rintro _ w1 ⟨rfl, rfl⟩
  simp (maxSteps := 1000000) (disch := omega) only [↓sy1, sy2, sy3, readOK, sy5, sy6, Nat.reduceEqDiff, ↓reduceIte, sy7, sy8, sy9, sya, oneOf, syb, syc, Nat.reduceAdd, Nat.reduceMul, syd, sye, syf, syg, syh, reduceCtorEq, show ¬ ((1 : Int) = 0) from by omega, decide_false, Bool.not_false]
  exact R_out trivial
theorem cwrite_nil {n : Int} {v : Value} : Calls Tryz.prog 35 #[.pointer none, .int .i64 n, v] w (Ret fun v w' => v = .int .i64 1 ∧ w' = w) := by
  have hlook : Calls Tryz.prog 64 #[.pointer none, .int .i64 n] w (Ret fun v w' => v = .int .i64 1 ∧ w' = w) := by
    apply enter64
    apply R_in
    simp (maxSteps := 1000000) (disch := omega) only [↓sy1, sy2, sy3, readOK, sy5, sy6, Nat.reduceEqDiff, ↓reduceIte, sy7, sy8, sy9, sya, oneOf, syb, syc, Nat.reduceAdd, Nat.reduceMul, syd, sye, syf, syg, syh, reduceCtorEq, F64]
    exact R_out trivial
  apply enter35
  apply R_in
  simp (maxSteps := 1000000) (disch := omega) only [↓sy1, sy2, sy3, readOK, sy5, sy6, Nat.reduceEqDiff, ↓reduceIte, sy7, sy8, sy9, sya, oneOf, syb, syc, Nat.reduceAdd, Nat.reduceMul, syd, sye, syf, syg, syh, reduceCtorEq, F35]
  refine call0 hlook ?_
  rintro _ w1 ⟨rfl, rfl⟩
  simp (maxSteps := 1000000) (disch := omega) only [↓sy1, sy2, sy3, readOK, sy5, sy6, Nat.reduceEqDiff, ↓reduceIte, sy7, sy8, sy9, sya, oneOf, syb, syc, Nat.reduceAdd, Nat.reduceMul, syd, sye, syf, syg, syh, reduceCtorEq, show ¬ ((1 : Int) = 0) from by omega, decide_false, Bool.not_false]
  exact R_out trivial
theorem ccommit_nil : Calls Tryz.prog 11 #[.pointer none] w (Ret fun v w' => v = .int .i64 1 ∧ w' = w) := by
  apply enter11
  apply R_in
  simp (maxSteps := 1000000) (disch := omega) only [↓sy1, sy2, sy3, readOK, sy5, sy6, Nat.reduceEqDiff, ↓reduceIte, sy7, sy8, sy9, sya, oneOf, syb, syc, Nat.reduceAdd, Nat.reduceMul, syd, sye, syf, syg, syh, reduceCtorEq, F11]
  exact R_out trivial
theorem cabort_nil : Calls Tryz.prog 20 #[.pointer none] w (Ret fun v w' => v = .int .i64 0 ∧ w' = w) := by
  apply enter20
  apply R_in
  simp (maxSteps := 1000000) (disch := omega) only [↓sy1, sy2, sy3, readOK, sy5, sy6, Nat.reduceEqDiff, ↓reduceIte, sy7, sy8, sy9, sya, oneOf, syb, syc, Nat.reduceAdd, Nat.reduceMul, syd, sye, syf, syg, syh, reduceCtorEq, F20]
  exact R_out trivial
theorem cdirty_nil : Calls Tryz.prog 62 #[.pointer none] w (Ret fun v w' => v = .slice none 0 0 ∧ w' = w) := by
  apply enter62
  apply R_in
  simp (maxSteps := 1000000) (disch := omega) only [↓sy1, sy2, sy3, readOK, sy5, sy6, Nat.reduceEqDiff, ↓reduceIte, sy7, sy8, sy9, sya, oneOf, syb, syc, Nat.reduceAdd, Nat.reduceMul, syd, sye, syf, syg, syh, reduceCtorEq, F62]
  exact R_out trivial
theorem croom_nil : Calls Tryz.prog 63 #[.pointer none] w (Ret fun v w' => v = .int .i64 0 ∧ w' = w) := by
  apply enter63
  apply R_in
  simp (maxSteps := 1000000) (disch := omega) only [↓sy1, sy2, sy3, readOK, sy5, sy6, Nat.reduceEqDiff, ↓reduceIte, sy7, sy8, sy9, sya, oneOf, syb, syc, Nat.reduceAdd, Nat.reduceMul, syd, sye, syf, syg, syh, reduceCtorEq, F63]
  exact R_out trivial
theorem clog_nil : Calls Tryz.prog 25 #[.pointer none] w (Ret fun v w' => v = .pointer none ∧ w' = w) := by
  apply enter25
  apply R_in
  simp (maxSteps := 1000000) (disch := omega) only [↓sy1, sy2, sy3, readOK, sy5, sy6, Nat.reduceEqDiff, ↓reduceIte, sy7, sy8, sy9, sya, oneOf, syb, syc, Nat.reduceAdd, Nat.reduceMul, syd, sye, syf, syg, syh, reduceCtorEq, F25]
  exact R_out trivial
end
end Go.Proofs.YtbnecclognibaaaGreat

/- Pages of a cache, in plain words. -/
namespace Go.Proofs.YtbnecclognibaaaGreat
open Go
set_option linter.unusedSimpArgs false
section
variable {c : Csh} {n m : Nat} {b : List UInt8}
theorem Csh.read_q (c : Csh) (n : Nat) : (c.read n).q = c.q := by unfold Csh.read; split <;> rfl
theorem Csh.read_D (c : Csh) (n : Nat) : (c.read n).D = c.D := by unfold Csh.read; split <;> rfl
theorem Csh.read_size (c : Csh) (n : Nat) : (c.read n).size = c.size := by unfold Csh.read; split <;> rfl
theorem Csh.read_most (c : Csh) (n : Nat) : (c.read n).most = c.most := by unfold Csh.read; split <;> rfl
theorem Csh.read_N (c : Csh) (n : Nat) : (c.read n).N = c.N := by simp only [Csh.N, Csh.read_D, Csh.read_size]
theorem Csh.read_dirty (c : Csh) (n : Nat) : (c.read n).dirty = c.dirty := by simp only [Csh.dirty, Csh.read_q, Csh.read_N]
theorem Csh.read_page (c : Csh) (n m : Nat) : (c.read n).page m = c.page m := by simp only [Csh.page, Csh.read_q, Csh.read_D, Csh.read_size]
theorem Csh.write_N (c : Csh) (n : Nat) (b : List UInt8) : (c.write n b).N = c.N := rfl
theorem Csh.write_page (c : Csh) (n m : Nat) (b : List UInt8) : (c.write n b).page m = if m = n then b else c.page m := by
  simp only [Csh.page, Csh.write, qput]
  split <;> rfl
theorem Csh.commit_N (c : Csh) : c.commit.N = c.N := by simp only [Csh.N, Csh.commit_first]; rfl
theorem Csh.commit_page (hc : c.Ok) (hn : n < c.N) : c.commit.page n = c.page n := by
  rw [← Csh.commit_image hc hn]; rfl
theorem Csh.dirty_commit (c : Csh) : c.commit.dirty = [] := keysQ_none _
theorem Csh.new_dirty (D : Dsk) (size most : Nat) : (Csh.new D size most).dirty = [] := keysQ_none _
theorem Csh.page_length (hc : c.Ok) (hn : n < c.N) : (c.page n).length = 512 := by
  unfold Csh.page
  cases hq : c.q n with
  | none => exact page_len hc hn
  | some b => exact (hc.q n b hq).2
/-- What a page is, behind a write that was taken. -/
theorem Csh.wcode_ok (h : c.wcode n b.length = 0) : n < c.N ∧ b.length = 512 := by
  unfold Csh.wcode at h
  split at h
  · cases h
  · split at h
    · cases h
    · exact ⟨by omega, by omega⟩
end
theorem Csh.commit_ops {c : Csh} (hc : c.Ok) : c.commit.D.ops.length ≤ c.D.ops.length + 206 ∧ c.D.ops.length ≤ c.commit.D.ops.length := by
  have hroom := hc.room
  simp only [Csh.cap] at hroom
  have hl := c.dirtyL_length
  unfold Csh.commit
  simp only
  split
  · omega
  · rw [grouped_ops]; omega
end Go.Proofs.YtbnecclognibaaaGreat

/- What is taken and what is free, in plain words. -/
namespace Go.Proofs.YtbnecclognibaaaGreat
open Go
set_option linter.unusedSimpArgs false
/-- A bit of a page. -/
def bitB (b : List UInt8) (i : Nat) : Bool := (b.getD (i / 8) 0).toNat.testBit (i % 8)
def flip1 (x : UInt8) (j : Nat) : UInt8 := UInt8.ofNat (x.toNat ^^^ 2 ^ j)
def flipB (b : List UInt8) (i : Nat) : List UInt8 := b.set (i / 8) (flip1 (b.getD (i / 8) 0) (i % 8))
def bitsOf (b : List UInt8) (n : Nat) : List Bool := (List.range n).map (bitB b)
theorem flip1_bit {x : UInt8} {j m : Nat} (hj : j < 8) : (flip1 x j).toNat.testBit m = if m = j then !x.toNat.testBit j else x.toNat.testBit m := by
  have hx : x.toNat < 2 ^ 8 := x.toNat_lt
  have h2 : 2 ^ j < 2 ^ 8 := Nat.pow_lt_pow_right (by omega) hj
  have h3 := Nat.xor_lt_two_pow hx h2
  unfold flip1
  rw [UInt8.toNat_ofNat', Nat.mod_eq_of_lt h3, Nat.testBit_xor, Nat.testBit_two_pow]
  by_cases h : m = j
  · subst h; simp
  · rw [if_neg h, decide_eq_false (Ne.symm h)]; simp
theorem flipB_length (b : List UInt8) (i : Nat) : (flipB b i).length = b.length := by simp [flipB]
theorem bitB_flip {b : List UInt8} {i j : Nat} (h : i / 8 < b.length) : bitB (flipB b i) j = if j = i then !bitB b i else bitB b j := by
  unfold bitB flipB
  by_cases hd : j / 8 = i / 8
  · rw [hd, List.getD_eq_getElem?_getD, List.getElem?_set_self h, Option.getD_some, flip1_bit (by omega)]
    by_cases hm : j % 8 = i % 8
    · rw [if_pos hm, if_pos (by omega)]
    · rw [if_neg hm, if_neg (by omega)]
  · rw [List.getD_eq_getElem?_getD, List.getElem?_set_ne (Ne.symm hd), ← List.getD_eq_getElem?_getD, if_neg (by omega)]
theorem bitsOf_length (b : List UInt8) (n : Nat) : (bitsOf b n).length = n := by simp [bitsOf]
theorem bitsOf_get {b : List UInt8} {n i : Nat} (h : i < n) : (bitsOf b n)[i]? = some (bitB b i) := by simp [bitsOf, h]
theorem bitsOf_flip {b : List UInt8} {n i : Nat} (h : i / 8 < b.length) : bitsOf (flipB b i) n = (bitsOf b n).set i (!bitB b i) := by
  apply List.ext_getElem?
  intro j
  by_cases hj : j < n
  · rw [bitsOf_get hj, bitB_flip h, List.getElem?_set]
    by_cases hij : j = i
    · subst hij; rw [if_pos rfl, if_pos rfl, if_pos (by rw [bitsOf_length]; exact hj)]
    · rw [if_neg hij, if_neg (Ne.symm hij), bitsOf_get hj]
  · rw [List.getElem?_eq_none (by rw [bitsOf_length]; omega), List.getElem?_eq_none (by rw [List.length_set, bitsOf_length]; omega)]
/-- The first that is free; the length, if none is. -/
def firstN : List Bool → Nat
  | [] => 0
  | true :: l => firstN l + 1
  | false :: _ => 0
theorem firstN_le : ∀ l : List Bool, firstN l ≤ l.length
  | [] => Nat.le_refl _
  | true :: l => Nat.succ_le_succ (firstN_le l)
  | false :: l => Nat.zero_le _
theorem firstN_lt : ∀ {l : List Bool} {j : Nat}, j < firstN l → l[j]? = some true
  | true :: l, 0, _ => rfl
  | true :: l, j + 1, h => by simpa using firstN_lt (l := l) (j := j) (by simpa [firstN] using h)
theorem firstN_at : ∀ {l : List Bool}, firstN l < l.length → l[firstN l]? = some false
  | true :: l, h => by simpa [firstN] using firstN_at (l := l) (by simpa [firstN] using h)
  | false :: l, _ => rfl
theorem firstN_eq {l : List Bool} {m : Nat} (h : ∀ j < m, l[j]? = some true) (hm : l[m]? = some false) : firstN l = m := by
  rcases Nat.lt_trichotomy (firstN l) m with h1 | h1 | h1
  · have h2 := h _ h1
    have h3 := firstN_at (l := l) (by have := (List.getElem?_eq_some_iff.1 h2).1; exact this)
    rw [h2] at h3; cases h3
  · exact h1
  · rw [firstN_lt h1] at hm; cases hm
theorem firstN_none {l : List Bool} (h : ∀ j < l.length, l[j]? = some true) : firstN l = l.length := by
  rcases Nat.lt_or_ge (firstN l) l.length with h1 | h1
  · have h2 := h _ h1
    rw [firstN_at h1] at h2; cases h2
  · exact Nat.le_antisymm (firstN_le l) h1
theorem firstN_ge {l : List Bool} {m : Nat} (h : ∀ j < m, l[j]? = some true) : m ≤ firstN l := by
  rcases Nat.lt_or_ge (firstN l) m with h1 | h1
  · have h2 := h _ h1
    have h3 := firstN_at (l := l) (List.getElem?_eq_some_iff.1 h2).1
    rw [h2] at h3; cases h3
  · exact h1
/-- What the program's 'first' tells. -/
def firstZ (l : List Bool) : Int := if firstN l < l.length then (firstN l : Int) else -1
/-- How many are free. -/
def freeN (l : List Bool) : Nat := l.count false
theorem freeN_le (l : List Bool) : freeN l ≤ l.length := List.count_le_length
theorem freeN_take {l : List Bool} {i : Nat} {x : Bool} (h : l[i]? = some x) : freeN (l.take (i + 1)) = freeN (l.take i) + if x then 0 else 1 := by
  rw [List.take_add_one, h, freeN, List.count_append]
  cases x <;> simp [freeN]
/-- The superblock. -/
def super4 (n : Nat) : List UInt8 := [UInt8.ofNat (n / 2 ^ 24), UInt8.ofNat (n / 2 ^ 16), UInt8.ofNat (n / 2 ^ 8), UInt8.ofNat n]
def superB (pages inodes : Nat) : List UInt8 := [68, 85, 78, 49] ++ super4 pages ++ super4 inodes ++ List.replicate 500 0
theorem superB_length (a b : Nat) : (superB a b).length = 512 := by
  simp only [superB, List.length_append, List.length_replicate]; rfl
/-- How many inodes may be on so many pages. -/
def mayA (pages : Nat) (inodes : Int) : Prop := 8 ≤ inodes ∧ inodes ≤ 512 ∧ inodes % 8 = 0 ∧ pages ≤ 4096 ∧ 3 + inodes / 8 < pages
instance (pages : Nat) (inodes : Int) : Decidable (mayA pages inodes) := inferInstanceAs (Decidable (_ ∧ _ ∧ _ ∧ _ ∧ _))
/-- A map on a cache's pages. -/
structure Alc (c : Csh) (P I : List Bool) : Prop where
  s : c.page 0 = superB c.N I.length
  p : bitsOf (c.page 2) c.N = P
  i : bitsOf (c.page 1) I.length = I
  may : mayA c.N I.length
  resv : ∀ j, j < 3 + I.length / 8 → P[j]? = some true
  root : I[0]? = some true
section
variable {c : Csh} {P I : List Bool}
theorem Alc.plen (h : Alc c P I) : P.length = c.N := by rw [← h.p, bitsOf_length]
theorem Alc.congr {c' : Csh} (h : Alc c P I) (hN : c'.N = c.N) (hp : ∀ n < 3, c'.page n = c.page n) : Alc c' P I :=
  ⟨by rw [hp 0 (by omega), hN]; exact h.s, by rw [hp 2 (by omega), hN]; exact h.p, by rw [hp 1 (by omega)]; exact h.i, by rw [hN]; exact h.may, h.resv, h.root⟩
theorem Alc.write (h : Alc c P I) {n : Nat} {b : List UInt8} (hn : 3 ≤ n) : Alc (c.write n b) P I :=
  h.congr rfl fun m hm => by rw [Csh.write_page, if_neg (by omega)]
theorem Alc.commit (h : Alc c P I) (hc : c.Ok) : Alc c.commit P I := by
  have hm := h.may
  unfold mayA at hm
  exact h.congr (Csh.commit_N c) fun m hm' => Csh.commit_page hc (by omega)
theorem Alc.first (h : Alc c P I) : 3 + I.length / 8 ≤ firstN P := firstN_ge h.resv
theorem Alc.first1 (h : Alc c P I) : 1 ≤ firstN I := firstN_ge fun j hj => by rw [show j = 0 by omega]; exact h.root
theorem set_mono {l : List Bool} {n m : Nat} (hn : n ≠ m) {b : Bool} : (l.set n b)[m]? = l[m]? := List.getElem?_set_ne hn
theorem Alc.flipP (h : Alc c P I) (hl : (c.page 2).length = 512) {n : Nat} {x : Bool} (hn : 3 + I.length / 8 ≤ n) (hx : P[n]? = some x) : Alc (c.write 2 (flipB (c.page 2) n)) (P.set n (!x)) I := by
  have hlt := (List.getElem?_eq_some_iff.1 hx).1
  rw [h.plen] at hlt
  have hm := h.may
  unfold mayA at hm
  have hb : bitB (c.page 2) n = x := by
    have h1 := bitsOf_get (b := c.page 2) hlt
    rw [h.p, hx] at h1; exact (Option.some.inj h1).symm
  refine ⟨?_, ?_, ?_, h.may, fun j hj => ?_, h.root⟩
  · rw [Csh.write_page, if_neg (by omega)]; exact h.s
  · rw [Csh.write_page, if_pos rfl, Csh.write_N, bitsOf_flip (by omega), h.p, hb]
  · rw [Csh.write_page, if_neg (by omega)]; exact h.i
  · rw [set_mono (by omega)]; exact h.resv j hj
theorem Alc.flipI (h : Alc c P I) (hl : (c.page 1).length = 512) {n : Nat} {x : Bool} (hn : 1 ≤ n) (hx : I[n]? = some x) : Alc (c.write 1 (flipB (c.page 1) n)) P (I.set n (!x)) := by
  have hlt := (List.getElem?_eq_some_iff.1 hx).1
  have hm := h.may
  unfold mayA at hm
  have hb : bitB (c.page 1) n = x := by
    have h1 := bitsOf_get (b := c.page 1) hlt
    rw [h.i, hx] at h1; exact (Option.some.inj h1).symm
  refine ⟨?_, ?_, ?_, by rw [List.length_set]; exact h.may, fun j hj => h.resv j (by simpa using hj), ?_⟩
  · rw [Csh.write_page, if_neg (by omega), List.length_set]; exact h.s
  · rw [Csh.write_page, if_neg (by omega)]; exact h.p
  · rw [Csh.write_page, if_pos rfl, List.length_set, bitsOf_flip (by omega), h.i, hb]
  · rw [set_mono (by omega)]; exact h.root
/-- A page that is taken; one that is given back; an inode. -/
def Csh.turnP (c : Csh) (n : Nat) : Csh := c.write 2 (flipB (c.page 2) n)
def Csh.turnI (c : Csh) (n : Nat) : Csh := c.write 1 (flipB (c.page 1) n)
def Csh.taken (c : Csh) (n : Nat) : Csh := (c.turnP n).write n zsec
theorem Alc.taken (h : Alc c P I) (hl : (c.page 2).length = 512) (hn : firstN P < P.length) : Alc (c.taken (firstN P)) (P.set (firstN P) true) I := by
  have hf := h.first
  exact (h.flipP hl hf (firstN_at hn)).write (by omega)
/-- What would be put, put: the keys behind it. -/
def insK (S : List Int) (n : Int) : List Int := if n ∈ S then S else S ++ [n]
def fitK (c : Csh) (l : List Int) : List Int := l.foldl insK (zs c.dirty)
def Csh.fits (c : Csh) (l : List Int) : Bool := decide ((fitK c l).length ≤ c.cap)
theorem insK_length (S : List Int) (n : Int) : (insK S n).length ≤ S.length + 1 ∧ S.length ≤ (insK S n).length := by
  unfold insK; split <;> simp
theorem fold_length : ∀ (l : List Int) (S : List Int), (l.foldl insK S).length ≤ S.length + l.length ∧ S.length ≤ (l.foldl insK S).length
  | [], S => by simp
  | a :: l, S => by
    have h1 := fold_length l (insK S a)
    have h2 := insK_length S a
    simp only [List.foldl_cons, List.length_cons]; omega
theorem fits_room {l : List Int} (h : c.dirty.length + l.length ≤ c.cap) : c.fits l = true := by
  have h1 := fold_length l (zs c.dirty)
  have h2 : (zs c.dirty).length = c.dirty.length := by simp [zs]
  unfold Csh.fits fitK
  rw [decide_eq_true_eq]; omega
end
end Go.Proofs.YtbnecclognibaaaGreat

/- A map of which the keys alone matter. -/
namespace Go.Proofs.YtbnecclognibaaaGreat
open Go
set_option linter.unusedSimpArgs false
theorem set_map {β : Type} {es : List MapEntry} {j : Nat} {y : MapEntry} (v : Value) (hj : es[j]? = some y) (f : MapEntry → β) (hf : f { y with val := v } = f y) : (es.set j { y with val := v }).map f = es.map f := by
  obtain ⟨hjl, hjy⟩ := List.getElem?_eq_some_iff.1 hj
  rw [List.map_set, hf, ← hjy, ← List.getElem_map (f := f) (h := by simpa using hjl)]
  exact List.set_getElem_self _
theorem MapOk.setv {es : List MapEntry} {clk j : Nat} {y : MapEntry} {v : Value} (h : MapOk es clk) (hj : es[j]? = some y) : MapOk (es.set j { y with val := v }) clk := by
  refine ⟨?_, ?_, fun z hz => ?_⟩
  · have h6 := h.keys
    rw [← List.pairwise_map (f := fun e : MapEntry => e.key) (R := fun a b => a ≠ b)] at h6 ⊢
    rw [set_map v hj _ rfl]; exact h6
  · have h6 := h.born
    rw [← List.pairwise_map (f := fun e : MapEntry => e.born) (R := fun a b => a ≠ b)] at h6 ⊢
    rw [set_map v hj _ rfl]; exact h6
  · rcases List.mem_or_eq_of_mem_set hz with hz | rfl
    · exact h.clk z hz
    · exact h.clk y (List.mem_of_getElem? hj)
/-- The map's keys are these. -/
def KMap (w : World) (m : Nat) (S : List Int) : Prop := ∃ es clk, w.heap[m]? = some (.map es clk) ∧ MapOk es.toList clk ∧ es.toList.map (·.key) = ints S
section
variable {w w' : World} {m : Nat} {S : List Int}
theorem KMap.keep {T : Nat → Prop} (h : KMap w m S) (hk : Keep T w w') (hm : ¬ T m) : KMap w' m S := by
  obtain ⟨es, clk, h1, h2, h3⟩ := h
  exact ⟨es, clk, hk.heap h1 hm, h2, h3⟩
theorem KMap.new {clk : Nat} (hm : w.heap[m]? = some (.map #[] clk)) : KMap w m [] := ⟨#[], clk, hm, ⟨by simp, by simp, by simp⟩, rfl⟩
theorem KMap.len (h : KMap w m S) : lenF w 2 (.map (some m)) = some (.int .i64 S.length) := by
  obtain ⟨es, clk, h1, h2, h3⟩ := h
  have h4 := congrArg List.length h3
  simp [ints] at h4
  rw [lenF_m h1, h4]
theorem keyed_ints {es : List MapEntry} {S : List Int} (h : es.map (·.key) = ints S) : IntKeyed .i64 es := fun y hy => by
  have h1 : y.key ∈ es.map (·.key) := List.mem_map_of_mem hy
  rw [h] at h1
  obtain ⟨n, _, hn⟩ := List.mem_map.1 h1
  exact ⟨n, hn.symm⟩
theorem KMap.put {k : Kont} {e : Env} {l : List GOp} {d : Option Nat} {P : Program} {xm xk xv : Operand} {t kt et ty : TypeId} {kd : IntKind} {n : Int} {v : Value} (h : KMap w m S) (hxm : ev e xm = .map (some m)) (hxk : ev e xk = .int .i64 n) (hxv : ev e xv = v)
    (ht : P.underlying t = some (.map kt et)) (hkt : P.underlying kt = some (.int kd))
    (hh : ∀ w', Keep (fun b => b = m) w w' → KMap w' m (insK S n) → R (symOps P l k (updO e d undef) w')) :
    R (symOps P (⟨d, .hard (H (.mapUpdate t xm xk xv) ty), none⟩ :: l) k e w) := by
  obtain ⟨es, clk, h1, h2, h3⟩ := h
  have hmem : ∀ y ∈ es.toList, ∃ a, a ∈ S ∧ y.key = .int .i64 a := fun y hy => by
    have h4 : y.key ∈ es.toList.map (·.key) := List.mem_map_of_mem hy
    rw [h3] at h4
    obtain ⟨a, ha, hae⟩ := List.mem_map.1 h4
    exact ⟨a, ha, hae.symm⟩
  refine put_rule hxm hxk hxv ht hkt h1 (keyed_ints h3) (fun hno w' hk hm' => ?_) (fun j y hj hyk w' hk hm' => ?_)
  · refine hh w' hk ⟨_, clk + 1, hm', h2.push hno, ?_⟩
    have hn : n ∉ S := fun hn => by
      have h4 : (Value.int .i64 n) ∈ es.toList.map (·.key) := by rw [h3]; exact List.mem_map_of_mem hn
      obtain ⟨y, hy, hyk⟩ := List.mem_map.1 h4
      exact hno y hy hyk
    rw [Array.toList_push, List.map_append, h3, insK, if_neg hn]
    simp [ints]
  · refine hh w' hk ⟨_, clk, hm', by rw [Array.toList_setIfInBounds]; exact h2.setv hj, ?_⟩
    obtain ⟨a, ha, hae⟩ := hmem y (List.mem_of_getElem? hj)
    rw [hyk] at hae
    have hn : n ∈ S := by rw [(Value.int.inj hae).2]; exact ha
    rw [Array.toList_setIfInBounds, set_map v hj _ rfl, h3, insK, if_pos hn]
end
theorem fold_nodup : ∀ (l S : List Int), (S ++ l).Nodup → l.foldl insK S = S ++ l
  | [], S, _ => by simp
  | a :: l, S, h => by
    have hn : a ∉ S := fun ha => by
      rw [List.nodup_append] at h
      exact h.2.2 a ha a (by simp) rfl
    rw [List.foldl_cons, insK, if_neg hn, fold_nodup l (S ++ [a]) (by simpa using h)]
    simp
theorem fold_take {l S : List Int} {i : Nat} (h : i < l.length) : (l.take (i + 1)).foldl insK S = insK ((l.take i).foldl insK S) l[i] := by
  rw [List.take_add_one, List.getElem?_eq_getElem h, List.foldl_append]; rfl
end Go.Proofs.YtbnecclognibaaaGreat

/- A cache, whichever pages it holds beside those that were written. -/
namespace Go.Proofs.YtbnecclognibaaaGreat
open Go
set_option linter.unusedSimpArgs false
def CacheS (G : Gh) (κ μ : Nat) (w : World) (p lq came : Nat) (c : Csh) : Prop := ∃ row, CacheAt G κ μ w p lq came { c with row := row }
def Csh.OkS (c : Csh) : Prop := ∃ row, ({ c with row := row } : Csh).Ok
section
variable {G G' : Gh} {κ μ p lq came : Nat} {w w' : World} {c : Csh}
theorem CacheAt.s (h : CacheAt G κ μ w p lq came c) : CacheS G κ μ w p lq came c := ⟨c.row, h⟩
theorem CacheS.oks (h : CacheS G κ μ w p lq came c) : c.OkS := let ⟨row, h1⟩ := h; ⟨row, h1.1⟩
theorem CacheS.ne (h : CacheS G κ μ w p lq came c) : κ ≠ μ ∧ μ ≠ 0 ∧ κ ≠ 0 := let ⟨_, h1⟩ := h; ⟨h1.2.ne, h1.2.ne0, h1.2.log.1⟩
theorem CacheS.ext {K : Nat → Prop} (h : CacheS G κ μ w p lq came c) (hx : Ext K G w G' w') (hk : ¬ K κ) (hm : ¬ K μ) (h0 : ¬ K 0) : CacheS G' κ μ w' p lq came c := let ⟨row, h1⟩ := h; ⟨row, h1.ext hx hk hm h0⟩
theorem CacheS.grow (h : CacheS G κ μ w p lq came c) (hg : Grow w w') : CacheS G κ μ w' p lq came c := let ⟨row, h1⟩ := h; ⟨row, h1.grow hg⟩
theorem Csh.OkS.room (h : c.OkS) : c.dirty.length ≤ c.cap := let ⟨_, h1⟩ := h; h1.room
theorem Csh.OkS.plen (h : c.OkS) {n : Nat} (hn : n < c.N) : (c.page n).length = 512 := let ⟨row, h1⟩ := h; Csh.page_length (c := { c with row := row }) h1 hn
theorem Csh.OkS.cpage (h : c.OkS) {n : Nat} (hn : n < c.N) : c.commit.page n = c.page n := let ⟨row, h1⟩ := h; Csh.commit_page (c := { c with row := row }) h1 hn
theorem Csh.OkS.cops (h : c.OkS) : c.commit.D.ops.length ≤ c.D.ops.length + 206 ∧ c.D.ops.length ≤ c.commit.D.ops.length := let ⟨row, h1⟩ := h; Csh.commit_ops (c := { c with row := row }) h1
theorem Csh.OkS.most (h : c.OkS) : c.D.first.length ≤ 4096 := let ⟨_, h1⟩ := h; h1.ok.most
theorem cslog_spec (h : CacheS G κ μ w p lq came c) :
    Calls Tryz.prog 25 #[.pointer (some ⟨p, 0, none⟩)] w (Ret fun v w' => v = .pointer (some ⟨lq, 0, none⟩) ∧ w' = w) := let ⟨_, h1⟩ := h; clog_spec h1
theorem csroom_spec (h : CacheS G κ μ w p lq came c) :
    Calls Tryz.prog 63 #[.pointer (some ⟨p, 0, none⟩)] w (Ret fun v w' => v = .int .i64 ((c.cap : Int) - c.dirty.length) ∧ Grow w w') := let ⟨row, h1⟩ := h; room_spec (c := { c with row := row }) h1
theorem csdirty_spec (h : CacheS G κ μ w p lq came c) :
    Calls Tryz.prog 62 #[.pointer (some ⟨p, 0, none⟩)] w (Ret fun v w' => w'.ownsRow w.heap.size 3 1 v c.dirty.length (ints (zs c.dirty)) ∧ Grow w w') := let ⟨row, h1⟩ := h; cdirty_spec (c := { c with row := row }) h1
theorem csread_strong (h : CacheS G κ μ w p lq came c) {n : Nat} (hn : n < c.N) :
    Calls Tryz.prog 59 #[.pointer (some ⟨p, 0, none⟩), .int .i64 n] w (Ret fun v w' => ∃ u G' w1, v = .tuple #[u, .int .i64 0] ∧ w'.ownsRow w1.heap.size 5 1 u 512 (bs (c.page n)) ∧ CacheS G' κ μ w1 p lq came c ∧ Ext (fun x => x = μ) G w G' w1 ∧ Grow w1 w') := by
  obtain ⟨row, h1⟩ := h
  refine Ret.mono (cread_strong h1 (n := n) hn) fun _ _ ⟨u, G', w1, h1, h2, h3, h4, h5⟩ => ⟨u, G', w1, h1, h2, ?_, h4, h5⟩
  unfold Csh.read at h3
  split at h3
  · exact ⟨row, h3⟩
  · exact ⟨_, h3⟩
theorem csread_spec (h : CacheS G κ μ w p lq came c) {n : Nat} (hn : n < c.N) :
    Calls Tryz.prog 59 #[.pointer (some ⟨p, 0, none⟩), .int .i64 n] w (Ret fun v w' => ∃ u G', v = .tuple #[u, .int .i64 0] ∧ w'.ownsRow w.heap.size 5 1 u 512 (bs (c.page n)) ∧ CacheS G' κ μ w' p lq came c ∧ Ext (fun x => x = μ) G w G' w') :=
  Ret.mono (csread_strong h hn) fun _ _ ⟨u, G', _, h1, h2, h3, h4, h5⟩ => ⟨u, G', h1, own_base h2 h4.size, h3.grow h5, h4.trans (.grow h5)⟩
theorem cswrite_spec (h : CacheS G κ μ w p lq came c) {n : Int} {bv : Value} {b : List UInt8} (hb : HasB w bv b) (hl : b.length ≤ 140737488355328) :
    Calls Tryz.prog 35 #[.pointer (some ⟨p, 0, none⟩), .int .i64 n, bv] w (Ret fun v w' => v = .int .i64 (c.wcode n b.length) ∧ ∃ G', CacheS G' κ μ w' p lq came (if c.wcode n b.length = 0 then c.write n.toNat b else c) ∧ Ext (fun x => x = μ) G w G' w') := by
  obtain ⟨row, h1⟩ := h
  refine Ret.mono (cwrite_spec h1 (n := n) hb hl) fun _ _ ⟨h2, G', h3, h4⟩ => ⟨h2, G', ?_, h4⟩
  have hcode : ({ c with row := row } : Csh).wcode n b.length = c.wcode n b.length := rfl
  rw [hcode] at h3
  split at h3
  · rename_i h0; rw [if_pos h0]; exact ⟨_, h3⟩
  · rename_i h0; rw [if_neg h0]; exact ⟨_, h3⟩
theorem cscommit_spec (h : CacheS G κ μ w p lq came c) (ho : c.D.ops.length < 700000) :
    Calls Tryz.prog 11 #[.pointer (some ⟨p, 0, none⟩)] w (Ret fun v w' => v = .int .i64 0 ∧ ∃ G', CacheS G' κ μ w' p lq came c.commit ∧ Ext (fun x => x = κ ∨ x = μ) G w G' w') := by
  obtain ⟨row, h1⟩ := h
  exact Ret.mono (ccommit_spec h1 ho) fun _ _ ⟨h2, G', h3, h4⟩ => ⟨h2, G', ⟨row, h3⟩, h4⟩
theorem csabort_spec (h : CacheS G κ μ w p lq came c) :
    Calls Tryz.prog 20 #[.pointer (some ⟨p, 0, none⟩)] w (Ret fun v w' => v = .int .i64 c.dirty.length ∧ CacheS G κ μ w' p lq came c.abort ∧ Ext (fun x => x = μ) G w G w') := by
  obtain ⟨row, h1⟩ := h
  exact Ret.mono (abort_spec h1) fun _ _ ⟨h2, h3, h4⟩ => ⟨h2, ⟨row, h3⟩, h4⟩
end
end Go.Proofs.YtbnecclognibaaaGreat

/- The map of what is free, in memory; a page of bits is read, looked at, turned. -/
namespace Go.Proofs.YtbnecclognibaaaGreat
open Go
set_option linter.unusedSimpArgs false
open Go.RowKit (intOf)
theorem Ext.then {K : Nat → Prop} {G G1 : Gh} {w w1 w2 : World} {g : Nat} (h : Ext K G w G1 w1) (hk : Keep (fun b => b = g) w1 w2) (hg : w.heap.size ≤ g) : Ext K G w G1 w2 :=
  ⟨hk.os.trans h.os, hk.tape.trans h.tape, hk.output.trans h.output, Nat.le_trans h.size hk.size, h.own, h.fix, h.fixe,
    fun b hb hn => (hk.blk b (Nat.lt_of_lt_of_le hb h.size) (by omega)).trans (h.blk b hb hn), fun b i v hb hi hc => hk.cell (h.pre b i v hb hi hc) (fun hh => by simp only at hh; omega)⟩
/-- The map at block m (nobody writes it any more), of a cache of k inodes. -/
structure MapC (G : Gh) (κ μ : Nat) (w : World) (m p lq came : Nat) (c : Csh) (k : Nat) : Prop where
  cache : CacheS G κ μ w p lq came c
  at_ : w.heap[m]? = some (.cells #[.pointer (some ⟨p, 0, none⟩), .int .i64 k] 61 (0, 0))
  own : G.own m = 0
  ne : κ ≠ 6 ∧ μ ≠ 6
  k5 : k ≤ 512
  n3 : 3 ≤ c.N
section
variable {G G' : Gh} {κ μ m p lq came k : Nat} {w w' : World} {c : Csh}
theorem MapC.ext {K : Nat → Prop} (h : MapC G κ μ w m p lq came c k) (hx : Ext K G w G' w') (hk : ¬ K κ) (hm : ¬ K μ) (h0 : ¬ K 0) : MapC G' κ μ w' m p lq came c k :=
  ⟨h.cache.ext hx hk hm h0, hx.heap h.at_ (by rw [h.own]; exact h0), by rw [hx.own m (hx.lt h.at_)]; exact h.own, h.ne, h.k5, h.n3⟩
theorem MapC.grow (h : MapC G κ μ w m p lq came c k) (hg : Grow w w') : MapC G κ μ w' m p lq came c k := h.ext (K := fun _ => False) (.grow hg) id id id
theorem MapC.put {c' : Csh} {K : Nat → Prop} (h : MapC G κ μ w m p lq came c k) (hx : Ext K G w G' w') (h0 : ¬ K 0) (hc : CacheS G' κ μ w' p lq came c') (hN : c'.N = c.N) : MapC G' κ μ w' m p lq came c' k :=
  ⟨hc, hx.heap h.at_ (by rw [h.own]; exact h0), by rw [hx.own m (hx.lt h.at_)]; exact h.own, h.ne, h.k5, by rw [hN]; exact h.n3⟩
theorem MapC.cells (h : MapC G κ μ w m p lq came c k) : w.cell? ⟨m, 0, none⟩ = some (.pointer (some ⟨p, 0, none⟩)) ∧ w.cell? ⟨m, 1, none⟩ = some (.int .i64 k) :=
  ⟨by rw [cell_block h.at_]; rfl, by rw [cell_block h.at_]; rfl⟩
theorem MapC.nine (h : MapC G κ μ w m p lq came c k) : c.N ≤ 4096 := by
  have h1 := h.cache.oks.most
  simp only [Csh.N]; omega
theorem upto_own {G : Gh} {B b o f : Nat} (h : B ≤ b) : (G.upto B (fun _ => o) (fun _ => f)).own b = o ∧ (G.upto B (fun _ => o) (fun _ => f)).fix b = f := by simp [Gh.upto, Nat.not_lt.2 h]
/-- How many bits count on a page. -/
def nbits (c : Csh) (k pg : Nat) : Nat := if pg = 2 then c.N else k
set_option maxHeartbeats 1000000 in
theorem mread_spec (h : MapC G κ μ w m p lq came c k) {pg : Nat} (hpg : pg = 1 ∨ pg = 2) :
    Calls Tryz.prog 45 #[.pointer (some ⟨m, 0, none⟩), .int .i64 pg] w (Ret fun v w' => ∃ u G', v = .agg #[u, .int .i64 (nbits c k pg)] ∧ w'.ownsRow w.heap.size 5 1 u 512 (bs (c.page pg)) ∧ (∀ b, u.ownBlock = some b → G'.own b = 6 ∧ G'.fix b = 0) ∧
      MapC G' κ μ w' m p lq came c k ∧ Ext (fun x => x = μ) G w G' w') := by
  obtain ⟨hne1, hne2, hne3⟩ := h.cache.ne
  have h6 := h.ne
  have hn3 := h.n3
  apply enter45
  apply R_in
  have hg0 : Grow w (w.alloc (.cells (Value.agg #[.slice none 0 0, .int .i64 0]).cells 83)) := (Keep.refl _ _).alloc _
  have hb0 := heap_alloc_new w (.cells (Value.agg #[.slice none 0 0, .int .i64 0]).cells 83)
  have hs0 : (w.alloc (.cells (Value.agg #[.slice none 0 0, .int .i64 0]).cells 83)).heap.size = w.heap.size + 1 := by simp
  simp (maxSteps := 1000000) (disch := omega) only [↓sy1, sy2, sy3, readOK, sy5, sy6, Nat.reduceEqDiff, ↓reduceIte, sy7, sy8, sy9, sya, oneOf, syb, syc, Nat.reduceAdd, Nat.reduceMul, syd, sye, syf, syg, syh, reduceCtorEq, F45, (h.grow hg0).cells.1]
  rw [agg2_cells (x := .slice none 0 0) (y := .int .i64 0) rfl rfl] at hg0 hb0 hs0 ⊢
  generalize w.alloc (.cells #[.slice none 0 0, .int .i64 0] 83) = w0 at hg0 hb0 hs0 ⊢
  have hx0 : Ext0 G w (G.upto w.heap.size (fun _ => 6) (fun _ => 0)) w0 := .upto hg0 _ _
  have h0 := h.ext hx0 id id id
  have ho0 := upto_own (G := G) (o := 6) (f := 0) (Nat.le_refl w.heap.size)
  generalize (G.upto w.heap.size (fun _ => 6) (fun _ => 0)) = G0 at hx0 h0 ho0
  refine call0 (csread_strong h0.cache (n := pg) (by omega)) ?_
  rintro _ w2 ⟨u, G1, w1, rfl, hu, hc1, hx1, hg2⟩
  have hx2 : Ext0 G1 w1 (G1.upto w1.heap.size (fun _ => 6) (fun _ => 0)) w2 := .upto hg2 _ _
  have h1 := h0.put hx1 (by omega) hc1 rfl
  have h2 := h1.ext hx2 id id id
  have hob : ∀ b, u.ownBlock = some b → (G1.upto w1.heap.size (fun _ => 6) (fun _ => 0)).own b = 6 ∧ (G1.upto w1.heap.size (fun _ => 6) (fun _ => 0)).fix b = 0 := fun b hb => upto_own (World.ownsRow.lt hu b hb).1
  have hlt0 : w.heap.size < w0.heap.size := by omega
  have hs1 := hx1.size
  have hbl1 := hx1.heap hb0 (by rw [ho0.1]; omega)
  have hbl2 : (G1.upto w1.heap.size (fun _ => 6) (fun _ => 0)).own w.heap.size = 6 ∧ (G1.upto w1.heap.size (fun _ => 6) (fun _ => 0)).fix w.heap.size = 0 := by
    rw [hx2.own _ (by omega), hx2.fixe _ (by omega) id, hx1.own _ hlt0, hx1.fixe _ hlt0 (by rw [ho0.1]; omega)]; exact ho0
  have hb2 := hg2.gheap hbl1
  generalize (G1.upto w1.heap.size (fun _ => 6) (fun _ => 0)) = G2 at hx2 h2 hob hbl2
  have hx02 : Ext (fun x => x = μ) G w G2 w2 := ((hx0.mono (fun _ h => h.elim)).trans hx1).trans (hx2.mono (fun _ h => h.elim))
  have huc := (Has.own hu).isCell
  have huB := World.ownsRow.lt hu
  have hu' := own_base hu (B' := w.heap.size) (by omega)
  clear hu hc1 hx1 hg2 hx2 h1 h0 hx0 ho0 hbl1
  have key : ∀ w3 nn, Grow w2 w3 → nn = nbits c k pg → ∃ w4, stnF w3 2 (.pointer (some ⟨w.heap.size, 0, none⟩)) (.agg #[u, .int .i64 nn]) = some (undef, w4) ∧
      RC (Tryz.prog.cellsOf 83) (.pointer (some ⟨w.heap.size, 0, none⟩)) (fun v w' => ∃ u G', v = .agg #[u, .int .i64 (nbits c k pg)] ∧ w'.ownsRow w.heap.size 5 1 u 512 (bs (c.page pg)) ∧ (∀ b, u.ownBlock = some b → G'.own b = 6 ∧ G'.fix b = 0) ∧
      MapC G' κ μ w' m p lq came c k ∧ Ext (fun x => x = μ) G w G' w') w4 := fun w3 nn hg3 hnn => by
    have hb3 := hg3.gheap hb2
    obtain ⟨w4, hst, hb4, hk4⟩ := stn2 (x := u) (y := .int .i64 nn) hb3 huc rfl
    have hub : ∀ b, u.ownBlock = some b → b ≠ w.heap.size := fun b hb => by have := (huB b hb).1; omega
    refine ⟨w4, hst, _, [u, .int .i64 nn], rfl, ?_, u, G2, by rw [hnn], own_keep (own_grow hu' hg3) hk4 (fun b hb hh => hub b hb hh), hob, ?_, ?_⟩
    · rw [show Tryz.prog.cellsOf 83 = 2 from by kernel_rfl]
      exact loadN2 (by rw [cell_block hb4]; rfl) (by rw [cell_block hb4]; rfl)
    · exact (h2.grow hg3).ext (.on0 hk4 hbl2.1 hbl2.2) h6.1 h6.2 (by omega)
    · exact (hx02.trans (.grow hg3)).then hk4 (Nat.le_refl _)
  rcases hpg with rfl | rfl
  · obtain ⟨w4, hst, hrc⟩ := key w2 k (Keep.refl _ _) rfl
    simp (maxSteps := 1000000) (disch := omega) only [↓sy1, sy2, sy3, readOK, sy5, sy6, Nat.reduceEqDiff, ↓reduceIte, sy7, sy8, sy9, sya, oneOf, syb, syc, Nat.reduceAdd, Nat.reduceMul, syd, sye, syf, syg, syh, reduceCtorEq, h2.cells, fill_gen, fillF_2 (u := u) (v := .int .i64 (k : Int)) huc rfl, hst, Int.reduceEq, decide_false]
    exact R_out hrc
  · simp (maxSteps := 1000000) (disch := omega) only [↓sy1, sy2, sy3, readOK, sy5, sy6, Nat.reduceEqDiff, ↓reduceIte, sy7, sy8, sy9, sya, oneOf, syb, syc, Nat.reduceAdd, Nat.reduceMul, syd, sye, syf, syg, syh, reduceCtorEq, h2.cells, Int.reduceEq, decide_true]
    refine call0 (cslog_spec h2.cache) ?_
    rintro _ w3 ⟨rfl, rfl⟩
    simp (maxSteps := 1000000) (disch := omega) only [↓sy1, sy2, sy3, readOK, sy5, sy6, Nat.reduceEqDiff, ↓reduceIte, sy7, sy8, sy9, sya, oneOf, syb, syc, Nat.reduceAdd, Nat.reduceMul, syd, sye, syf, syg, syh, reduceCtorEq]
    obtain ⟨row, hca⟩ := h2.cache
    refine call0 (pages_spec hca.2.log) ?_
    rintro _ w3 ⟨rfl, hg3⟩
    obtain ⟨w4, hst, hrc⟩ := key w3 c.N hg3 rfl
    have hN : ((c.D.first.length - c.size - 1 : Nat) : Int) = (c.N : Int) := rfl
    simp (maxSteps := 1000000) (disch := omega) only [↓sy1, sy2, sy3, readOK, sy5, sy6, Nat.reduceEqDiff, ↓reduceIte, sy7, sy8, sy9, sya, oneOf, syb, syc, Nat.reduceAdd, Nat.reduceMul, syd, sye, syf, syg, syh, reduceCtorEq, hN, fill_gen, fillF_2 (u := u) (v := .int .i64 (c.N : Int)) huc rfl, hst]
    exact R_out hrc
end
end Go.Proofs.YtbnecclognibaaaGreat

/- A bit is looked at, found, turned; whether pages fit. -/
namespace Go.Proofs.YtbnecclognibaaaGreat
open Go
set_option linter.unusedSimpArgs false
open Go.RowKit (intOf)
def bitChk (x i : Nat) : Bool :=
  decide (IntKind.u8.wrap ((BitVec.ofInt 8 ((x : Int).fdiv (2 ^ (min ((i : Int).toNat) 8))) &&& BitVec.ofInt 8 1).toNat : Nat) = if x.testBit i then 1 else 0) &&
  decide (IntKind.u8.wrap ((BitVec.ofInt 8 (x : Int) ^^^ BitVec.ofInt 8 (IntKind.u8.wrap (1 * 2 ^ (min ((i : Int).toNat) 8)))).toNat : Nat) = ((x ^^^ 2 ^ i : Nat) : Int)) &&
  decide (IntKind.u8.wrap ((BitVec.ofInt 8 (x : Int) ||| BitVec.ofInt 8 (IntKind.u8.wrap (1 * 2 ^ (min ((i : Int).toNat) 8)))).toNat : Nat) = ((x ||| 2 ^ i : Nat) : Int)) && decide ((x ^^^ 2 ^ i) % 256 = x ^^^ 2 ^ i)
set_option maxRecDepth 100000 in
theorem bit_chk : ((List.range 256).all fun x => (List.range 8).all (bitChk x)) = true := by kernel_rfl
theorem bit_at {x i : Nat} (hx : x < 256) (hi : i < 8) : bitChk x i = true :=
  List.all_eq_true.1 (List.all_eq_true.1 bit_chk x (List.mem_range.2 hx)) i (List.mem_range.2 hi)
theorem shr_and {x : UInt8} {i : Nat} (hi : i < 8) : ∃ a, binV .shr (.int .u8 (x.toNat : Int)) (.int .i64 (i : Int)) = some (.int .u8 a) ∧ binV .and (.int .u8 a) (.int .u8 1) = some (.int .u8 (if x.toNat.testBit i then 1 else 0)) := by
  have h := bit_at (x := x.toNat) x.toNat_lt hi
  simp only [bitChk, Bool.and_eq_true, decide_eq_true_eq] at h
  refine ⟨(x.toNat : Int).fdiv (2 ^ (min ((i : Int).toNat) 8)), ?_, ?_⟩
  · simp only [binV]; rw [if_neg (by omega)]; rfl
  · simp only [binV]; rw [if_pos trivial]; exact congrArg (fun z => some (Value.int .u8 z)) h.1.1.1
theorem shl_xor {x : UInt8} {i : Nat} (hi : i < 8) : ∃ a, binV .shl (.int .u8 1) (.int .i64 (i : Int)) = some (.int .u8 a) ∧ binV .xor (.int .u8 (x.toNat : Int)) (.int .u8 a) = some (.int .u8 ((flip1 x i).toNat : Int)) := by
  have h := bit_at (x := x.toNat) x.toNat_lt hi
  simp only [bitChk, Bool.and_eq_true, decide_eq_true_eq] at h
  refine ⟨IntKind.u8.wrap (1 * 2 ^ (min ((i : Int).toNat) 8)), ?_, ?_⟩
  · simp only [binV]; rw [if_neg (by omega)]; rfl
  · simp only [binV]; rw [if_pos trivial]
    refine congrArg (fun z => some (Value.int .u8 z)) (h.1.1.2.trans ?_)
    rw [flip1, UInt8.toNat_ofNat', show 2 ^ 8 = 256 from rfl, h.2]
theorem tdiv8 (i : Nat) : (i : Int).tdiv 8 = ((i / 8 : Nat) : Int) := rfl
theorem tmod8 (i : Nat) : (i : Int).tmod 8 = ((i % 8 : Nat) : Int) := rfl
section
variable {G G' : Gh} {κ μ m p lq came k : Nat} {w w' : World} {c : Csh}
theorem bat_spec {u nv : Value} {b : List UInt8} {i : Nat} (hb : HasB w u b) (hi : i / 8 < b.length) (hn : isCell nv = true) (hlen : i < 70000) :
    Calls Tryz.prog 78 #[.agg #[u, nv], .int .i64 i] w (Ret fun v w' => v = .bool (bitB b i) ∧ Grow w w') := by
  have huc := hb.isCell
  apply enter78
  apply R_in
  simp (maxSteps := 1000000) (disch := omega) only [↓sy1, sy2, sy3, readOK, sy5, sy6, Nat.reduceEqDiff, ↓reduceIte, sy7, sy8, sy9, sya, oneOf, syb, syc, Nat.reduceAdd, Nat.reduceMul, syd, sye, syf, syg, syh, reduceCtorEq, F78, agg2_cells huc hn]
  have hg0 : Grow w (w.alloc (.cells #[u, nv] 83)) := (Keep.refl _ _).alloc _
  have hb0 := heap_alloc_new w (.cells #[u, nv] 83)
  generalize w.alloc (.cells #[u, nv] 83) = w0 at hg0 hb0 ⊢
  obtain ⟨a, ha, hc, _⟩ := (hb.grow hg0).getB hi
  obtain ⟨z, h1, h2⟩ := shr_and (x := b[i / 8]) (i := i % 8) (by omega)
  have hc0 : w0.cell? ⟨w.heap.size, 0, none⟩ = some u := by rw [cell_block hb0]; rfl
  simp (maxSteps := 1000000) (disch := omega) only [↓sy1, sy2, sy3, readOK, sy5, sy6, Nat.reduceEqDiff, ↓reduceIte, sy7, sy8, sy9, sya, oneOf, syb, syc, Nat.reduceAdd, Nat.reduceMul, syd, sye, syf, syg, syh, reduceCtorEq, hc0, tdiv8, tmod8, ha, hc, h1, h2]
  refine R_out ⟨?_, hg0⟩
  unfold bitB
  rw [List.getD_eq_getElem?_getD, List.getElem?_eq_getElem hi, Option.getD_some]
  cases b[i / 8].toNat.testBit (i % 8) <;> rfl
set_option maxHeartbeats 1000000 in
theorem first_spec {u : Value} {b : List UInt8} {n : Nat} (hb : HasB w u b) (hn : n ≤ 8 * b.length) (hlen : b.length ≤ 100000) :
    Calls Tryz.prog 46 #[.agg #[u, .int .i64 n]] w (Ret fun v w' => v = .int .i64 (firstZ (bitsOf b n)) ∧ Grow w w') := by
  have huc := hb.isCell
  apply enter46
  apply R_in
  simp (maxSteps := 1000000) (disch := omega) only [↓sy1, sy2, sy3, readOK, sy5, sy6, Nat.reduceEqDiff, ↓reduceIte, sy7, sy8, sy9, sya, oneOf, syb, syc, Nat.reduceAdd, Nat.reduceMul, syd, sye, syf, syg, syh, reduceCtorEq, F46, agg2_cells huc (y := .int .i64 (n : Int)) rfl]
  have hg0 : Grow w (w.alloc (.cells #[u, .int .i64 n] 83)) := (Keep.refl _ _).alloc _
  have hb0 := heap_alloc_new w (.cells #[u, .int .i64 n] 83)
  generalize w.alloc (.cells #[u, .int .i64 n] 83) = w0 at hg0 hb0 ⊢
  have hB0 := hb.grow hg0
  have hc0 : w0.cell? ⟨w.heap.size, 0, none⟩ = some u := by rw [cell_block hb0]; rfl
  have hc1 : w0.cell? ⟨w.heap.size, 1, none⟩ = some (.int .i64 n) := by rw [cell_block hb0]; rfl
  have hl8 : ∀ w', lenF w' 0 u = some (.int .i64 b.length) := fun w' => hB0.lenB w'
  have hfound : ∀ j : Nat, j < n → bitB b j = false → (∀ i < j, bitB b i = true) → firstZ (bitsOf b n) = (j : Int) := fun j hj h1 h2 => by
    have h3 : firstN (bitsOf b n) = j := firstN_eq (fun i hi => by rw [bitsOf_get (by omega), h2 i hi]) (by rw [bitsOf_get hj, h1])
    rw [firstZ, h3, bitsOf_length, if_pos hj]
  have hnone : (∀ i < n, bitB b i = true) → firstZ (bitsOf b n) = -1 := fun h1 => by
    have h3 : firstN (bitsOf b n) = (bitsOf b n).length := firstN_none (fun i hi => by rw [bitsOf_length] at hi; rw [bitsOf_get hi, h1 i hi])
    rw [firstZ, h3, if_neg (by omega)]
  simp (maxSteps := 1000000) (disch := omega) only [↓sy1, sy2, sy3, readOK, sy5, sy6, Nat.reduceEqDiff, ↓reduceIte, sy7, sy8, sy9, sya, oneOf, syb, syc, Nat.reduceAdd, Nat.reduceMul, syd, sye, syf, syg, syh, reduceCtorEq, hc0, hl8]
  refine loop_rule (fun e w' => ∃ j : Nat, j ≤ b.length ∧ e 11 = .int .i64 j ∧ e 10 = .int .i64 b.length ∧ e 9 = u ∧ e 1 = .pointer (some ⟨w.heap.size, 0, none⟩) ∧ e 3 = .int .i64 (-1) ∧ (∀ i, i < 8 * j → i < n ∧ bitB b i = true) ∧ w0 = w') (fun e _ => b.length - (intOf (e 11)).toNat)
    ⟨0, by omega, by simp [upd, updO, ev], by simp [upd, updO, ev], by simp [upd, updO, ev], by simp [upd, updO, ev], by simp [upd, updO, ev], by omega, rfl⟩ ?_
  rintro e w' ⟨j, hj, e11, e10, e9, e1, e3, hall, rfl⟩
  by_cases hjl : j < b.length
  · obtain ⟨a, ha, hc, _⟩ := hB0.getB hjl
    simp (maxSteps := 1000000) (disch := omega) only [↓sy1, sy2, sy3, readOK, sy5, sy6, Nat.reduceEqDiff, ↓reduceIte, sy7, sy8, sy9, sya, oneOf, syb, syc, Nat.reduceAdd, Nat.reduceMul, syd, sye, syf, syg, syh, reduceCtorEq, F46_L1, e11, e10, e9, e1, e3, Int.ofNat_lt, hjl, decide_true, ha, hc]
    refine loop_rule (fun e w' => ∃ i : Nat, i ≤ 8 ∧ e 16 = .int .i64 i ∧ e 4 = .int .i64 j ∧ e 5 = .int .u8 (b[j].toNat : Int) ∧ e 11 = .int .i64 j ∧ e 10 = .int .i64 b.length ∧ e 9 = u ∧ e 1 = .pointer (some ⟨w.heap.size, 0, none⟩) ∧ e 3 = .int .i64 (-1) ∧ (∀ z, z < 8 * j + i → z < n ∧ bitB b z = true) ∧ w0 = w') (fun e _ => 8 - (intOf (e 16)).toNat)
      ⟨0, by omega, by simp [upd, updO, ev], by simp [upd, updO, ev], by simp [upd, updO, ev], by simp [upd, updO, ev, e11], by simp [upd, updO, ev, e10], by simp [upd, updO, ev, e9], by simp [upd, updO, ev, e1], by simp [upd, updO, ev, e3], by simpa using hall, rfl⟩ ?_
    rintro e w' ⟨i, hi, e16, e4, e5, e11, e10, e9, e1, e3, hall, rfl⟩
    have hm8 : (8 : Int) * (j : Int) + (i : Int) = ((8 * j + i : Nat) : Int) := by omega
    by_cases hi8 : i < 8
    · by_cases hn8 : n ≤ 8 * j + i
      · simp (maxSteps := 1000000) (disch := omega) only [↓sy1, sy2, sy3, readOK, sy5, sy6, Nat.reduceEqDiff, ↓reduceIte, sy7, sy8, sy9, sya, oneOf, syb, syc, Nat.reduceAdd, Nat.reduceMul, syd, sye, syf, syg, syh, reduceCtorEq, F46_L0, e16, e4, e5, e11, e10, e9, e1, e3, show ((i : Int) < 8) from by omega, decide_true, hc1, hm8, show ((n : Int) ≤ ((8 * j + i : Nat) : Int)) from by omega]
        exact R_out ⟨by rw [hnone (fun z hz => (hall z (by omega)).2)], hg0⟩
      · obtain ⟨z, h1, h2⟩ := shr_and (x := b[j]) (i := i) hi8
        have hbit : bitB b (8 * j + i) = b[j].toNat.testBit i := by
          unfold bitB
          rw [show (8 * j + i) / 8 = j from by omega, show (8 * j + i) % 8 = i from by omega, List.getD_eq_getElem?_getD, List.getElem?_eq_getElem hjl, Option.getD_some]
        cases ht : b[j].toNat.testBit i with
        | true =>
          rw [ht] at h2 hbit
          simp (maxSteps := 1000000) (disch := omega) only [↓sy1, sy2, sy3, readOK, sy5, sy6, Nat.reduceEqDiff, ↓reduceIte, sy7, sy8, sy9, sya, oneOf, syb, syc, Nat.reduceAdd, Nat.reduceMul, syd, sye, syf, syg, syh, reduceCtorEq, F46_L0, e16, e4, e5, e11, e10, e9, e1, e3, show ((i : Int) < 8) from by omega, decide_true, hc1, hm8, show ¬ ((n : Int) ≤ ((8 * j + i : Nat) : Int)) from by omega, decide_false, h1, h2, Int.reduceEq]
          refine R_out ⟨⟨i + 1, by omega, rfl, fun z hz => ?_⟩, by simp only [intOf]; omega⟩
          by_cases hz' : z < 8 * j + i
          · exact hall z hz'
          · rw [show z = 8 * j + i from by omega]; exact ⟨by omega, hbit⟩
        | false =>
          rw [ht] at h2 hbit
          have h2' : binV .and (.int .u8 z) (.int .u8 1) = some (.int .u8 0) := h2
          simp (maxSteps := 1000000) (disch := omega) only [↓sy1, sy2, sy3, readOK, sy5, sy6, Nat.reduceEqDiff, ↓reduceIte, sy7, sy8, sy9, sya, oneOf, syb, syc, Nat.reduceAdd, Nat.reduceMul, syd, sye, syf, syg, syh, reduceCtorEq, F46_L0, e16, e4, e5, e11, e10, e9, e1, e3, show ((i : Int) < 8) from by omega, decide_true, hc1, hm8, show ¬ ((n : Int) ≤ ((8 * j + i : Nat) : Int)) from by omega, decide_false, h1, h2']
          exact R_out ⟨by rw [hfound _ (by omega) hbit (fun z hz => (hall z hz).2)], hg0⟩
    · simp (maxSteps := 1000000) (disch := omega) only [↓sy1, sy2, sy3, readOK, sy5, sy6, Nat.reduceEqDiff, ↓reduceIte, sy7, sy8, sy9, sya, oneOf, syb, syc, Nat.reduceAdd, Nat.reduceMul, syd, sye, syf, syg, syh, reduceCtorEq, F46_L0, e16, e4, e5, e11, e10, e9, e1, e3, show ¬ ((i : Int) < 8) from by omega, decide_false]
      exact R_out ⟨⟨j + 1, by omega, rfl, fun z hz => hall z (by omega)⟩, by simp only [intOf]; omega⟩
  · simp (maxSteps := 1000000) (disch := omega) only [↓sy1, sy2, sy3, readOK, sy5, sy6, Nat.reduceEqDiff, ↓reduceIte, sy7, sy8, sy9, sya, oneOf, syb, syc, Nat.reduceAdd, Nat.reduceMul, syd, sye, syf, syg, syh, reduceCtorEq, F46_L1, e11, e10, e9, e1, e3, Int.ofNat_lt, hjl, decide_false]
    exact R_out ⟨by rw [hnone (fun z hz => (hall z (by omega)).2)], hg0⟩
end
end Go.Proofs.YtbnecclognibaaaGreat

/- A bit is turned; whether pages fit. -/
namespace Go.Proofs.YtbnecclognibaaaGreat
open Go
set_option linter.unusedSimpArgs false
open Go.RowKit (intOf)
theorem Ext.thenS {K S : Nat → Prop} {G G1 : Gh} {w w1 w2 : World} (h : Ext K G w G1 w1) (hk : Keep S w1 w2) (hg : ∀ b, S b → w.heap.size ≤ b) : Ext K G w G1 w2 :=
  ⟨hk.os.trans h.os, hk.tape.trans h.tape, hk.output.trans h.output, Nat.le_trans h.size hk.size, h.own, h.fix, h.fixe,
    fun b hb hn => (hk.blk b (Nat.lt_of_lt_of_le hb h.size) (fun hh => by have := hg b hh; omega)).trans (h.blk b hb hn), fun b i v hb hi hc => hk.cell (h.pre b i v hb hi hc) (fun hh => by have := hg _ hh; simp only at this; omega)⟩
theorem underMB : Tryz.prog.underlying 99 = some (.map 3 4) := by kernel_rfl
theorem flipB_bs {b : List UInt8} {i : Nat} (h : i / 8 < b.length) : (bs b).set (i / 8) (.int .u8 ((flip1 b[i / 8] (i % 8)).toNat : Int)) = bs (flipB b i) := by
  rw [flipB, List.getD_eq_getElem?_getD, List.getElem?_eq_getElem h, Option.getD_some]
  simp [bs, List.map_set]
section
variable {G G' : Gh} {κ μ m p lq came k : Nat} {w w' : World} {c : Csh}
set_option maxHeartbeats 1000000 in
theorem turn_spec (h : MapC G κ μ w m p lq came c k) {pg i : Nat} (hpg : pg = 1 ∨ pg = 2) (hi : i < 4096) (hw : c.wcode pg 512 = 0) :
    Calls Tryz.prog 47 #[.pointer (some ⟨m, 0, none⟩), .int .i64 pg, .int .i64 i] w (Ret fun v w' => ∃ G', MapC G' κ μ w' m p lq came (c.write pg (flipB (c.page pg) i)) k ∧ Ext (fun x => x = μ) G w G' w') := by
  have hn3 := h.n3
  have hpl := h.cache.oks.plen (n := pg) (by omega)
  have hib : i / 8 < (c.page pg).length := by omega
  apply enter47
  apply R_in
  simp (maxSteps := 1000000) (disch := omega) only [↓sy1, sy2, sy3, readOK, sy5, sy6, Nat.reduceEqDiff, ↓reduceIte, sy7, sy8, sy9, sya, oneOf, syb, syc, Nat.reduceAdd, Nat.reduceMul, syd, sye, syf, syg, syh, reduceCtorEq, F47]
  refine call0 (mread_spec h hpg) ?_
  rintro _ w1 ⟨u, G1, rfl, hu, hub, h1, hx1⟩
  have huc := (Has.own hu).isCell
  have hg2 : Grow w1 (w1.alloc (.cells (Value.agg #[.slice none 0 0, .int .i64 0]).cells 83)) := (Keep.refl _ _).alloc _
  have hb2 := heap_alloc_new w1 (.cells (Value.agg #[.slice none 0 0, .int .i64 0]).cells 83)
  simp (maxSteps := 1000000) (disch := omega) only [↓sy1, sy2, sy3, readOK, sy5, sy6, Nat.reduceEqDiff, ↓reduceIte, sy7, sy8, sy9, sya, oneOf, syb, syc, Nat.reduceAdd, Nat.reduceMul, syd, sye, syf, syg, syh, reduceCtorEq]
  rw [agg2_cells (x := .slice none 0 0) (y := .int .i64 0) rfl rfl] at hg2 hb2 ⊢
  generalize w1.alloc (.cells #[.slice none 0 0, .int .i64 0] 83) = w2 at hg2 hb2 ⊢
  obtain ⟨w3, hst, hb3, hk3⟩ := stn2 (x := u) (y := .int .i64 (nbits c k pg)) hb2 huc rfl
  have hlt1 : ∀ b, u.ownBlock = some b → b < w1.heap.size := fun b hb => (World.ownsRow.lt hu b hb).2
  have hg3 : Grow w1 w3 := hg2.then hk3 (fun b hb hh => by omega)
  simp (maxSteps := 1000000) (disch := omega) only [↓sy1, sy2, sy3, readOK, sy5, sy6, Nat.reduceEqDiff, ↓reduceIte, sy7, sy8, sy9, sya, oneOf, syb, syc, Nat.reduceAdd, Nat.reduceMul, syd, sye, syf, syg, syh, reduceCtorEq, hst]
  refine draw47_0 (fun _ => False) ?_
  have hg4 := hg3.drew
  have hb4 : w3.drew.heap[w1.heap.size]? = _ := hb3
  generalize hw4 : w3.drew = w4 at hg4 hb4 ⊢
  have hu4 := own_grow hu hg4
  have hc4 : w4.cell? ⟨w1.heap.size, 0, none⟩ = some u := by rw [cell_block hb4]; rfl
  obtain ⟨a0, w5, ha0, hst5, ho5, hk5, hbk⟩ := own_store hu4 (i := i / 8) (by omega) (u := .int .u8 ((flip1 (c.page pg)[i / 8] (i % 8)).toNat : Int)) rfl
  obtain ⟨a, ha, hca, _⟩ := (Has.own hu4).getB hib
  obtain ⟨z, hz1, hz2⟩ := shl_xor (x := (c.page pg)[i / 8]) (i := i % 8) (by omega)
  rw [ha] at ha0
  cases ha0
  rw [flipB_bs hib] at ho5
  simp (maxSteps := 1000000) (disch := omega) only [↓sy1, sy2, sy3, readOK, sy5, sy6, Nat.reduceEqDiff, ↓reduceIte, sy7, sy8, sy9, sya, oneOf, syb, syc, Nat.reduceAdd, Nat.reduceMul, syd, sye, syf, syg, syh, reduceCtorEq, PL47_0, hc4, tdiv8, tmod8, ha, hca, hz1, hz2, hst5]
  refine draw47_1 (fun _ => False) ?_
  have h5 : MapC G1 κ μ w5 m p lq came c k := (h1.grow hg4).ext (.onS0 hk5 (fun b hb => hub b hb)) h.ne.1 h.ne.2 (by omega)
  have hb5 := hk5.heap hb4 (fun hh => by have := hlt1 _ hh; omega)
  have hgd : Grow w5 w5.drew := (Keep.refl _ _).drew
  have h6 := h5.grow hgd
  have ho6 := own_grow ho5 hgd
  have hb6 := hgd.gheap hb5
  have hx6 : Ext (fun x => x = μ) G w G1 w5.drew := ((hx1.trans (.grow hg4)).thenS hk5 (fun b hb => (World.ownsRow.lt hu b hb).1)).drew
  generalize w5.drew = w6 at hgd h6 ho6 hb6 hx6 ⊢
  have hc6 : w6.cell? ⟨w1.heap.size, 0, none⟩ = some u := by rw [cell_block hb6]; rfl
  simp (maxSteps := 1000000) (disch := omega) only [↓sy1, sy2, sy3, readOK, sy5, sy6, Nat.reduceEqDiff, ↓reduceIte, sy7, sy8, sy9, sya, oneOf, syb, syc, Nat.reduceAdd, Nat.reduceMul, syd, sye, syf, syg, syh, reduceCtorEq, PL47_1, h6.cells, hc6]
  refine call0 (cswrite_spec h6.cache (n := pg) (b := flipB (c.page pg) i) (Has.own ho6) (by rw [flipB_length]; omega)) ?_
  rintro _ w7 ⟨rfl, G7, hc7, hx7⟩
  simp (maxSteps := 1000000) (disch := omega) only [↓sy1, sy2, sy3, readOK, sy5, sy6, Nat.reduceEqDiff, ↓reduceIte, sy7, sy8, sy9, sya, oneOf, syb, syc, Nat.reduceAdd, Nat.reduceMul, syd, sye, syf, syg, syh, reduceCtorEq]
  rw [flipB_length, hpl, hw] at hc7
  exact R_out ⟨G7, h6.put hx7 (fun hh => h.cache.ne.2.1 hh.symm) hc7 rfl, hx6.trans hx7⟩
set_option maxHeartbeats 1000000 in
theorem fits_spec (h : MapC G κ μ w m p lq came c k) {lv : Value} {l : List Int} (hl : HasI w lv l) (hll : l.length ≤ 100000) :
    Calls Tryz.prog 33 #[.pointer (some ⟨m, 0, none⟩), lv] w (Ret fun v w' => v = .bool (c.fits l) ∧ Grow w w') := by
  have hroom := h.cache.oks.room
  have hnine := h.nine
  have hcap : c.cap ≤ 100 := by simp only [Csh.cap]; omega
  have hdl : (zs c.dirty).length = c.dirty.length := by simp [zs]
  apply enter33
  apply R_in
  have hg0 : Grow w (w.alloc (.map #[] 0)) := (Keep.refl _ _).alloc _
  have hb0 := heap_alloc_new w (.map #[] 0)
  have hs0 : (w.alloc (.map #[] 0)).heap.size = w.heap.size + 1 := by simp
  simp (maxSteps := 1000000) (disch := omega) only [↓sy1, sy2, sy3, readOK, sy5, sy6, Nat.reduceEqDiff, ↓reduceIte, sy7, sy8, sy9, sya, oneOf, syb, syc, Nat.reduceAdd, Nat.reduceMul, syd, sye, syf, syg, syh, reduceCtorEq, F33, (h.grow hg0).cells.1]
  generalize w.alloc (.map #[] 0) = w0 at hg0 hb0 hs0 ⊢
  refine call0 (csdirty_spec (h.grow hg0).cache) ?_
  rintro dv w1 ⟨hdv, hg1⟩
  have hK1 : KMap w1 w.heap.size [] := .new (hg1.gheap hb0)
  have hlen : ∀ w', lenF w' 0 dv = some (.int .i64 c.dirty.length) := fun w' => by
    rw [(Has.own hdv).lenI, hdl]
  simp (maxSteps := 1000000) (disch := omega) only [↓sy1, sy2, sy3, readOK, sy5, sy6, Nat.reduceEqDiff, ↓reduceIte, sy7, sy8, sy9, sya, oneOf, syb, syc, Nat.reduceAdd, Nat.reduceMul, syd, sye, syf, syg, syh, reduceCtorEq, hlen]
  refine loop_rule (fun e w' => ∃ i : Nat, i ≤ c.dirty.length ∧ e 18 = .int .i64 i ∧ e 17 = .int .i64 c.dirty.length ∧ e 16 = dv ∧ e 5 = .map (some w.heap.size) ∧ e 1 = lv ∧ e 0 = .pointer (some ⟨m, 0, none⟩) ∧ Grow w w' ∧ KMap w' w.heap.size (((zs c.dirty).take i).foldl insK []) ∧ w'.ownsRow w0.heap.size 3 1 dv c.dirty.length (ints (zs c.dirty))) (fun e _ => c.dirty.length - (intOf (e 18)).toNat)
    ⟨0, by omega, by simp [upd, updO, ev], by simp [upd, updO, ev], by simp [upd, updO, ev], by simp [upd, updO, ev], by simp [upd, updO, ev], by simp [upd, updO, ev], hg0.trans hg1, hK1, hdv⟩ ?_
  rintro e w2 ⟨i, hi, e18, e17, e16, e5, e1, e0, hg2, hK2, hd2⟩
  by_cases hlt : i < c.dirty.length
  · obtain ⟨a, ha, hc, _⟩ := (Has.own hd2).getI (i := i) (by omega)
    simp (maxSteps := 1000000) (disch := omega) only [↓sy1, sy2, sy3, readOK, sy5, sy6, Nat.reduceEqDiff, ↓reduceIte, sy7, sy8, sy9, sya, oneOf, syb, syc, Nat.reduceAdd, Nat.reduceMul, syd, sye, syf, syg, syh, reduceCtorEq, F33_L0, e18, e17, e16, e5, e1, e0, Int.ofNat_lt, hlt, decide_true, ha, hc]
    refine hK2.put (n := (zs c.dirty)[i]) (v := .bool true) (by simp only [upd_at, Nat.reduceEqDiff, reduceIte, ev_tmp, ev_const, List.map_cons, List.map_nil]) (by simp only [upd_at, Nat.reduceEqDiff, reduceIte, ev_tmp, ev_const, List.map_cons, List.map_nil]) (by simp only [upd_at, Nat.reduceEqDiff, reduceIte, ev_tmp, ev_const, List.map_cons, List.map_nil]) underMB underI (fun w3 hk3 hK3 => ?_)
    simp (maxSteps := 1000000) (disch := omega) only [↓sy1, sy2, sy3, readOK, sy5, sy6, Nat.reduceEqDiff, ↓reduceIte, sy7, sy8, sy9, sya, oneOf, syb, syc, Nat.reduceAdd, Nat.reduceMul, syd, sye, syf, syg, syh, reduceCtorEq, e18, e17, e16, e5, e1, e0]
    refine R_out ⟨⟨i + 1, by omega, rfl, hg2.then hk3 (fun b hb hh => by omega), ?_, own_keep hd2 hk3 (fun b hb hh => by have := (World.ownsRow.lt hd2 b hb).1; omega)⟩, by simp only [intOf]; omega⟩
    rw [fold_take (by omega)]; exact hK3
  have hie : i = c.dirty.length := by omega
  subst hie
  rw [← hdl, List.take_length] at hK2
  have hnd : ((zs c.dirty)).foldl insK [] = zs c.dirty := by
    rw [fold_nodup _ _ (by rw [List.nil_append]; exact zs_nodup (nodup_lt (keysQ_rise _ _)))]; simp
  rw [hnd] at hK2
  have hl2 := hl.grow hg2
  have hlenl : ∀ w', lenF w' 0 lv = some (.int .i64 l.length) := fun w' => hl.lenI w'
  have hK2l := hK2.len
  rw [hdl] at hK2l
  simp (maxSteps := 1000000) (disch := omega) only [↓sy1, sy2, sy3, readOK, sy5, sy6, Nat.reduceEqDiff, ↓reduceIte, sy7, sy8, sy9, sya, oneOf, syb, syc, Nat.reduceAdd, Nat.reduceMul, syd, sye, syf, syg, syh, reduceCtorEq, F33_L0, e18, e17, e16, e5, e1, e0, Int.ofNat_lt, Nat.lt_irrefl, decide_false, hK2l, hlenl]
  clear hd2 e18 e17 e16
  refine loop_rule (fun e w' => ∃ i : Nat, i ≤ l.length ∧ e 29 = .int .i64 i ∧ e 28 = .int .i64 l.length ∧ e 27 = lv ∧ e 5 = .map (some w.heap.size) ∧ e 8 = .int .i64 c.dirty.length ∧ e 0 = .pointer (some ⟨m, 0, none⟩) ∧ Grow w w' ∧ KMap w' w.heap.size ((l.take i).foldl insK (zs c.dirty))) (fun e _ => l.length - (intOf (e 29)).toNat)
    ⟨0, by omega, by simp [upd, updO, ev], by simp [upd, updO, ev], by simp [upd, updO, ev], by simp [upd, updO, ev, e5], by simp [upd, updO, ev], by simp [upd, updO, ev, e0], hg2, hK2⟩ ?_
  rintro e w3 ⟨i, hi, e29, e28, e27, e5, e8, e0, hg3, hK3⟩
  by_cases hlt : i < l.length
  · obtain ⟨a, ha, hc, _⟩ := (hl.grow hg3).getI (i := i) hlt
    simp (maxSteps := 1000000) (disch := omega) only [↓sy1, sy2, sy3, readOK, sy5, sy6, Nat.reduceEqDiff, ↓reduceIte, sy7, sy8, sy9, sya, oneOf, syb, syc, Nat.reduceAdd, Nat.reduceMul, syd, sye, syf, syg, syh, reduceCtorEq, F33_L1, e29, e28, e27, e5, e8, e0, Int.ofNat_lt, hlt, decide_true, ha, hc]
    refine hK3.put (n := l[i]) (v := .bool true) (by simp only [upd_at, Nat.reduceEqDiff, reduceIte, ev_tmp, ev_const, List.map_cons, List.map_nil]) (by simp only [upd_at, Nat.reduceEqDiff, reduceIte, ev_tmp, ev_const, List.map_cons, List.map_nil]) (by simp only [upd_at, Nat.reduceEqDiff, reduceIte, ev_tmp, ev_const, List.map_cons, List.map_nil]) underMB underI (fun w4 hk4 hK4 => ?_)
    simp (maxSteps := 1000000) (disch := omega) only [↓sy1, sy2, sy3, readOK, sy5, sy6, Nat.reduceEqDiff, ↓reduceIte, sy7, sy8, sy9, sya, oneOf, syb, syc, Nat.reduceAdd, Nat.reduceMul, syd, sye, syf, syg, syh, reduceCtorEq, e29, e28, e27, e5, e8, e0]
    refine R_out ⟨⟨i + 1, by omega, rfl, hg3.then hk4 (fun b hb hh => by omega), ?_⟩, by simp only [intOf]; omega⟩
    rw [fold_take hlt]; exact hK4
  have hie : i = l.length := by omega
  subst hie
  rw [List.take_length] at hK3
  simp (maxSteps := 1000000) (disch := omega) only [↓sy1, sy2, sy3, readOK, sy5, sy6, Nat.reduceEqDiff, ↓reduceIte, sy7, sy8, sy9, sya, oneOf, syb, syc, Nat.reduceAdd, Nat.reduceMul, syd, sye, syf, syg, syh, reduceCtorEq, F33_L1, e29, e28, e27, e5, e8, e0, Int.ofNat_lt, Nat.lt_irrefl, decide_false]
  refine draw33_0 (fun _ => False) ?_
  have hgd : Grow w3 w3.drew := (Keep.refl _ _).drew
  have hK4 := hK3.keep hgd id
  have h4 := (h.grow hg3).grow hgd
  have hg4 := hg3.trans hgd
  generalize w3.drew = w4 at hgd hK4 h4 hg4 ⊢
  have hlen4 := hK4.len
  have hfl : (fitK c l).length ≤ 100000 + 100 := by
    have := fold_length l (zs c.dirty)
    unfold fitK; omega
  have hfd : c.dirty.length ≤ (fitK c l).length := by
    have := fold_length l (zs c.dirty)
    unfold fitK; omega
  rw [show (l.foldl insK (zs c.dirty)) = fitK c l from rfl] at hlen4
  simp (maxSteps := 1000000) (disch := omega) only [↓sy1, sy2, sy3, readOK, sy5, sy6, Nat.reduceEqDiff, ↓reduceIte, sy7, sy8, sy9, sya, oneOf, syb, syc, Nat.reduceAdd, Nat.reduceMul, syd, sye, syf, syg, syh, reduceCtorEq, PL33_0, e5, e8, e0, h4.cells.1, hlen4]
  refine ⟨Keep.refl _ _, call0 (csroom_spec h4.cache) ?_⟩
  rintro _ w5 ⟨rfl, hg5⟩
  simp (maxSteps := 1000000) (disch := omega) only [↓sy1, sy2, sy3, readOK, sy5, sy6, Nat.reduceEqDiff, ↓reduceIte, sy7, sy8, sy9, sya, oneOf, syb, syc, Nat.reduceAdd, Nat.reduceMul, syd, sye, syf, syg, syh, reduceCtorEq]
  refine R_out ⟨?_, hg4.trans hg5⟩
  unfold Csh.fits
  exact decide_eq_decide.2 (by omega)
end
end Go.Proofs.YtbnecclognibaaaGreat

/- A page, an inode is taken; one is given back. -/
namespace Go.Proofs.YtbnecclognibaaaGreat
open Go
set_option linter.unusedSimpArgs false
open Go.RowKit (intOf)
theorem HasI_block1 {w : World} {b : Nat} {x : Int} {t : TypeId} {f : Nat × Nat} (h : w.heap[b]? = some (.cells #[.int .i64 x] t f)) : HasI w (.slice (some ⟨b, 0, none⟩) 1 1) [x] :=
  .inl ⟨b, 0, 1, 1, rfl, rfl, by omega, fun j u hj => by
    rcases j with _ | j
    · simp [ints] at hj; subst hj; rw [cell_block h]; rfl
    · simp [ints] at hj⟩
theorem HasI_block2 {w : World} {b : Nat} {x y : Int} {t : TypeId} {f : Nat × Nat} (h : w.heap[b]? = some (.cells #[.int .i64 x, .int .i64 y] t f)) : HasI w (.slice (some ⟨b, 0, none⟩) 2 2) [x, y] :=
  .inl ⟨b, 0, 2, 2, rfl, rfl, by omega, fun j u hj => by
    rcases j with _ | _ | j
    · simp [ints] at hj; subst hj; rw [cell_block h]; rfl
    · simp [ints] at hj; subst hj; rw [cell_block h]; rfl
    · simp [ints] at hj⟩
/-- 512 zeros are made. -/
theorem mkz_rule {k : Kont} {e : Env} {w : World} {l : List GOp} {d : Option Nat} (hh : ∀ v w', Grow w w' → w'.ownsRow w.heap.size 5 1 v 512 (bs zsec) → R (symOps Tryz.prog l k (updO e d v) w')) :
    R (symOps Tryz.prog (⟨d, .hard (H (.makeSlice 62 (.const (.int .i64 512)) (.const (.int .i64 512))) 62), none⟩ :: l) k e w) := by
  refine mk_rule elemB (kx := .i64) (ky := .i64) (a := 512) (c := 512) rfl rfl (by omega) (by omega) (by omega) (by omega) rfl ?_
  refine hh _ _ ((Keep.refl _ _).alloc _) ?_
  have ho7 := own_made w w.heap.size (Nat.le_refl _) 5 (512 : Int).toNat (by decide) (.int .u8 0)
  rw [bs_zsec]; exact ho7
section
variable {G G' : Gh} {κ μ m p lq came k : Nat} {w w' : World} {c : Csh} {P I : List Bool}
theorem mem_dirty {n : Nat} (hn : n < c.N) : n ∈ c.dirty ↔ c.q n ≠ none := by
  rw [Csh.dirty, mem_keysQ]
  constructor
  · rintro ⟨_, b, hb⟩; rw [hb]; simp
  · intro h
    cases hq : c.q n with
    | none => exact absurd hq h
    | some b => exact ⟨hn, b, rfl⟩
theorem mem_zs {l : List Nat} {n : Nat} : (n : Int) ∈ zs l ↔ n ∈ l := by
  simp only [zs, List.mem_map]
  exact ⟨fun ⟨a, ha, hae⟩ => by have : a = n := by omega
                                subst this; exact ha, fun h => ⟨n, h, rfl⟩⟩
theorem wcode_zero {n : Nat} {len : Nat} (hn : n < c.N) (hl : len = 512) (h : c.q n = none → c.dirty.length < c.cap) : c.wcode n len = 0 := by
  unfold Csh.wcode
  rw [if_neg (by omega), if_neg (by omega), if_neg]
  rintro ⟨h1, h2⟩
  have := h (by simpa using h1); omega
theorem zs_len (l : List Nat) : (zs l).length = l.length := by simp [zs]
theorem fits1 {n : Nat} (h : c.fits [(n : Int)] = true) (hn : n < c.N) : c.wcode n 512 = 0 := by
  refine wcode_zero hn rfl fun hq => ?_
  have h : (insK (zs c.dirty) (n : Int)).length ≤ c.cap := of_decide_eq_true h
  have h1 : (n : Int) ∉ zs c.dirty := fun hm => (mem_dirty hn).1 (mem_zs.1 hm) hq
  rw [insK, if_neg h1, List.length_append, zs_len] at h
  simp at h; omega
theorem write_dirty {n : Nat} {b : List UInt8} (hn : n < c.N) : (c.write n b).dirty.length = c.dirty.length + if (c.q n).isSome then 0 else 1 := keysQ_put (N := c.N) (q := c.q) hn
theorem fits2 {n : Nat} (h : c.fits [2, (n : Int)] = true) (h2 : 2 < c.N) (hn : n < c.N) (hne : n ≠ 2) (b : List UInt8) : c.wcode 2 512 = 0 ∧ (c.write 2 b).wcode n 512 = 0 := by
  have h : (insK (insK (zs c.dirty) 2) (n : Int)).length ≤ c.cap := of_decide_eq_true h
  have e2 : ((2 : Nat) : Int) = 2 := rfl
  have hm2 := insK_length (zs c.dirty) 2
  have hmn := insK_length (insK (zs c.dirty) 2) n
  have hi2 : c.q 2 = none → (insK (zs c.dirty) 2).length = c.dirty.length + 1 := fun hq => by
    have h1 : (2 : Int) ∉ zs c.dirty := fun hm => (mem_dirty h2).1 (mem_zs.1 (e2 ▸ hm)) hq
    rw [insK, if_neg h1, List.length_append, zs_len]; rfl
  have hin : c.q n = none → (insK (insK (zs c.dirty) 2) n).length = (insK (zs c.dirty) 2).length + 1 := fun hq => by
    have h1 : (n : Int) ∉ insK (zs c.dirty) 2 := fun hm => by
      have h3 : (n : Int) ∈ zs c.dirty := by
        unfold insK at hm
        split at hm
        · exact hm
        · rcases List.mem_append.1 hm with hm | hm
          · exact hm
          · simp at hm; omega
      exact (mem_dirty hn).1 (mem_zs.1 h3) hq
    rw [insK, if_neg h1, List.length_append]; rfl
  rw [zs_len] at hm2
  refine ⟨wcode_zero h2 rfl fun hq => ?_, wcode_zero (c := c.write 2 b) hn rfl fun hq => ?_⟩
  · have := hi2 hq; omega
  · have hq' : c.q n = none := by simpa [Csh.write, qput, hne] using hq
    have h3 := hin hq'
    rw [write_dirty h2, show (c.write 2 b).cap = c.cap from rfl]
    cases hq2 : c.q 2 with
    | none => have := hi2 hq2; simp; omega
    | some b' => simp; omega
/-- The map, and what is taken. -/
def MapAt (G : Gh) (κ μ : Nat) (w : World) (m p lq came : Nat) (c : Csh) (P I : List Bool) : Prop := MapC G κ μ w m p lq came c I.length ∧ Alc c P I
theorem MapAt.ext {K : Nat → Prop} (h : MapAt G κ μ w m p lq came c P I) (hx : Ext K G w G' w') (hk : ¬ K κ) (hm : ¬ K μ) (h0 : ¬ K 0) : MapAt G' κ μ w' m p lq came c P I := ⟨h.1.ext hx hk hm h0, h.2⟩
theorem MapAt.grow (h : MapAt G κ μ w m p lq came c P I) (hg : Grow w w') : MapAt G κ μ w' m p lq came c P I := ⟨h.1.grow hg, h.2⟩
theorem MapAt.facts (h : MapAt G κ μ w m p lq came c P I) : 8 ≤ I.length ∧ I.length ≤ 512 ∧ I.length % 8 = 0 ∧ c.N ≤ 4096 ∧ 3 + I.length / 8 < c.N ∧ P.length = c.N ∧ (c.page 1).length = 512 ∧ (c.page 2).length = 512 := by
  have h1 := h.2.may
  have hn := h.1.n3
  unfold mayA at h1
  exact ⟨by omega, by omega, by omega, by omega, by omega, h.2.plen, h.1.cache.oks.plen (by omega), h.1.cache.oks.plen (by omega)⟩
/-- What Page answers, and leaves. -/
def PageR (G : Gh) (κ μ : Nat) (w : World) (m p lq came : Nat) (c : Csh) (P I : List Bool) (v : Value) : Prop :=
  (v = .tuple #[.int .i64 0, .int .i64 7] ∧ (firstN P < P.length → c.fits [2, (firstN P : Int)] = false) ∧ MapAt G κ μ w m p lq came c P I) ∨
  (v = .tuple #[.int .i64 (firstN P), .int .i64 0] ∧ firstN P < P.length ∧ c.fits [2, (firstN P : Int)] = true ∧ MapAt G κ μ w m p lq came (c.taken (firstN P)) (P.set (firstN P) true) I)
set_option maxHeartbeats 1000000 in
theorem page_spec (h : MapAt G κ μ w m p lq came c P I) :
    Calls Tryz.prog 16 #[.pointer (some ⟨m, 0, none⟩)] w (Ret fun v w' => ∃ G', Ext (fun x => x = μ) G w G' w' ∧ PageR G' κ μ w' m p lq came c P I v) := by
  obtain ⟨f1, f2, f3, f4, f5, f6, f7, f8⟩ := h.facts
  have hne := h.1.cache.ne
  apply enter16
  apply R_in
  simp (maxSteps := 1000000) (disch := omega) only [↓sy1, sy2, sy3, readOK, sy5, sy6, Nat.reduceEqDiff, ↓reduceIte, sy7, sy8, sy9, sya, oneOf, syb, syc, Nat.reduceAdd, Nat.reduceMul, syd, sye, syf, syg, syh, reduceCtorEq, F16]
  refine call0 (mread_spec h.1 (pg := 2) (.inr rfl)) ?_
  rintro _ w1 ⟨u, G1, rfl, hu, _, h1, hx1⟩
  rw [show nbits c I.length 2 = c.N from rfl]
  simp (maxSteps := 1000000) (disch := omega) only [↓sy1, sy2, sy3, readOK, sy5, sy6, Nat.reduceEqDiff, ↓reduceIte, sy7, sy8, sy9, sya, oneOf, syb, syc, Nat.reduceAdd, Nat.reduceMul, syd, sye, syf, syg, syh, reduceCtorEq]
  refine call0 (first_spec (b := c.page 2) (n := c.N) (Has.own hu) (by omega) (by omega)) ?_
  rintro _ w2 ⟨rfl, hg2⟩
  rw [h.2.p]
  by_cases hlt : firstN P < P.length
  · rw [show firstZ P = (firstN P : Int) from if_pos hlt]
    have h2 := h1.grow hg2
    simp (maxSteps := 1000000) (disch := omega) only [↓sy1, sy2, sy3, readOK, sy5, sy6, Nat.reduceEqDiff, ↓reduceIte, sy7, sy8, sy9, sya, oneOf, syb, syc, Nat.reduceAdd, Nat.reduceMul, syd, sye, syf, syg, syh, reduceCtorEq, show ¬ ((firstN P : Int) < 0) from by omega, decide_false, fill_gen, fillF_2 (u := .int .i64 2) (v := .int .i64 (firstN P : Int)) rfl rfl]
    have hg3 : Grow w2 (w2.alloc (.cells #[.int .i64 2, .int .i64 (firstN P : Int)] 3)) := (Keep.refl _ _).alloc _
    have hb3 := heap_alloc_new w2 (.cells #[.int .i64 2, .int .i64 (firstN P : Int)] 3)
    generalize w2.alloc (.cells #[.int .i64 2, .int .i64 (firstN P : Int)] 3) = w3 at hg3 hb3 ⊢
    have h3 := h2.grow hg3
    refine call0 (fits_spec h3 (l := [2, (firstN P : Int)]) (HasI_block2 hb3) (by simp)) ?_
    rintro _ w4 ⟨rfl, hg4⟩
    have h4 := h3.grow hg4
    have hx4 : Ext (fun x => x = μ) G w G1 w4 := ((hx1.trans (.grow hg2)).trans (.grow hg3)).trans (.grow hg4)
    cases hf : c.fits [2, (firstN P : Int)] with
    | false =>
      simp (maxSteps := 1000000) (disch := omega) only [↓sy1, sy2, sy3, readOK, sy5, sy6, Nat.reduceEqDiff, ↓reduceIte, sy7, sy8, sy9, sya, oneOf, syb, syc, Nat.reduceAdd, Nat.reduceMul, syd, sye, syf, syg, syh, reduceCtorEq]
      exact R_out ⟨G1, hx4, Or.inl ⟨rfl, fun _ => hf, h4, h.2⟩⟩
    | true =>
      have hfirst := h.2.first
      obtain ⟨hw1, hw2⟩ := fits2 (n := firstN P) hf (by omega) (by omega) (by omega) (flipB (c.page 2) (firstN P))
      simp (maxSteps := 1000000) (disch := omega) only [↓sy1, sy2, sy3, readOK, sy5, sy6, Nat.reduceEqDiff, ↓reduceIte, sy7, sy8, sy9, sya, oneOf, syb, syc, Nat.reduceAdd, Nat.reduceMul, syd, sye, syf, syg, syh, reduceCtorEq]
      refine call0 (turn_spec h4 (pg := 2) (i := firstN P) (.inr rfl) (by omega) hw1) ?_
      rintro _ w5 ⟨G5, h5, hx5⟩
      simp (maxSteps := 1000000) (disch := omega) only [↓sy1, sy2, sy3, readOK, sy5, sy6, Nat.reduceEqDiff, ↓reduceIte, sy7, sy8, sy9, sya, oneOf, syb, syc, Nat.reduceAdd, Nat.reduceMul, syd, sye, syf, syg, syh, reduceCtorEq]
      refine draw16_0 (fun _ => False) ?_
      have hgd : Grow w5 w5.drew := (Keep.refl _ _).drew
      have h6 := h5.grow hgd
      have hx6 := (hx4.trans hx5).trans (.grow hgd)
      generalize w5.drew = w6 at hgd h6 hx6 ⊢
      simp (maxSteps := 1000000) (disch := omega) only [↓sy1, sy2, sy3, readOK, sy5, sy6, Nat.reduceEqDiff, ↓reduceIte, sy7, sy8, sy9, sya, oneOf, syb, syc, Nat.reduceAdd, Nat.reduceMul, syd, sye, syf, syg, syh, reduceCtorEq, PL16_0, h6.cells.1]
      refine mkz_rule (fun zv w7 hg7 hz => ?_)
      have h7 := h6.grow hg7
      have hx7 := hx6.trans (.grow hg7)
      simp (maxSteps := 1000000) (disch := omega) only [↓sy1, sy2, sy3, readOK, sy5, sy6, Nat.reduceEqDiff, ↓reduceIte, sy7, sy8, sy9, sya, oneOf, syb, syc, Nat.reduceAdd, Nat.reduceMul, syd, sye, syf, syg, syh, reduceCtorEq]
      refine ⟨hg7, ?_⟩
      refine call0 (cswrite_spec h7.cache (n := firstN P) (b := zsec) (Has.own hz) (by rw [zsec_length]; omega)) ?_
      rintro _ w8 ⟨rfl, G8, hc8, hx8⟩
      rw [zsec_length, if_pos hw2] at hc8
      simp (maxSteps := 1000000) (disch := omega) only [↓sy1, sy2, sy3, readOK, sy5, sy6, Nat.reduceEqDiff, ↓reduceIte, sy7, sy8, sy9, sya, oneOf, syb, syc, Nat.reduceAdd, Nat.reduceMul, syd, sye, syf, syg, syh, reduceCtorEq]
      exact R_out ⟨G8, hx7.trans hx8, Or.inr ⟨rfl, hlt, hf, h7.put hx8 (fun hh => hne.2.1 hh.symm) hc8 rfl, h.2.taken f8 hlt⟩⟩
  · rw [show firstZ P = -1 from if_neg hlt]
    simp (maxSteps := 1000000) (disch := omega) only [↓sy1, sy2, sy3, readOK, sy5, sy6, Nat.reduceEqDiff, ↓reduceIte, sy7, sy8, sy9, sya, oneOf, syb, syc, Nat.reduceAdd, Nat.reduceMul, syd, sye, syf, syg, syh, reduceCtorEq, show ((-1 : Int) < 0) from by omega, decide_true]
    exact R_out ⟨G1, hx1.trans (.grow hg2), Or.inl ⟨rfl, fun h => absurd h hlt, h1.grow hg2, h.2⟩⟩
/-- What Inode answers, and leaves. -/
def InodeR (G : Gh) (κ μ : Nat) (w : World) (m p lq came : Nat) (c : Csh) (P I : List Bool) (v : Value) : Prop :=
  (v = .tuple #[.int .i64 0, .int .i64 7] ∧ (firstN I < I.length → c.fits [1] = false) ∧ MapAt G κ μ w m p lq came c P I) ∨
  (v = .tuple #[.int .i64 (firstN I), .int .i64 0] ∧ firstN I < I.length ∧ c.fits [1] = true ∧ MapAt G κ μ w m p lq came (c.turnI (firstN I)) P (I.set (firstN I) true))
set_option maxHeartbeats 1000000 in
theorem inode_spec (h : MapAt G κ μ w m p lq came c P I) :
    Calls Tryz.prog 17 #[.pointer (some ⟨m, 0, none⟩)] w (Ret fun v w' => ∃ G', Ext (fun x => x = μ) G w G' w' ∧ InodeR G' κ μ w' m p lq came c P I v) := by
  obtain ⟨f1, f2, f3, f4, f5, f6, f7, f8⟩ := h.facts
  have hne := h.1.cache.ne
  apply enter17
  apply R_in
  simp (maxSteps := 1000000) (disch := omega) only [↓sy1, sy2, sy3, readOK, sy5, sy6, Nat.reduceEqDiff, ↓reduceIte, sy7, sy8, sy9, sya, oneOf, syb, syc, Nat.reduceAdd, Nat.reduceMul, syd, sye, syf, syg, syh, reduceCtorEq, F17]
  refine call0 (mread_spec h.1 (pg := 1) (.inl rfl)) ?_
  rintro _ w1 ⟨u, G1, rfl, hu, _, h1, hx1⟩
  rw [show nbits c I.length 1 = I.length from rfl]
  simp (maxSteps := 1000000) (disch := omega) only [↓sy1, sy2, sy3, readOK, sy5, sy6, Nat.reduceEqDiff, ↓reduceIte, sy7, sy8, sy9, sya, oneOf, syb, syc, Nat.reduceAdd, Nat.reduceMul, syd, sye, syf, syg, syh, reduceCtorEq]
  refine call0 (first_spec (b := c.page 1) (n := I.length) (Has.own hu) (by omega) (by omega)) ?_
  rintro _ w2 ⟨rfl, hg2⟩
  rw [h.2.i]
  by_cases hlt : firstN I < I.length
  · rw [show firstZ I = (firstN I : Int) from if_pos hlt]
    have h2 := h1.grow hg2
    simp (maxSteps := 1000000) (disch := omega) only [↓sy1, sy2, sy3, readOK, sy5, sy6, Nat.reduceEqDiff, ↓reduceIte, sy7, sy8, sy9, sya, oneOf, syb, syc, Nat.reduceAdd, Nat.reduceMul, syd, sye, syf, syg, syh, reduceCtorEq, show ¬ ((firstN I : Int) < 0) from by omega, decide_false]
    have hg3 : Grow w2 (w2.alloc (.cells #[.int .i64 1] 3)) := (Keep.refl _ _).alloc _
    have hb3 := heap_alloc_new w2 (.cells #[.int .i64 1] 3)
    generalize w2.alloc (.cells #[.int .i64 1] 3) = w3 at hg3 hb3 ⊢
    have h3 := h2.grow hg3
    refine call0 (fits_spec h3 (l := [1]) (HasI_block1 hb3) (by simp)) ?_
    rintro _ w4 ⟨rfl, hg4⟩
    have h4 := h3.grow hg4
    have hx4 : Ext (fun x => x = μ) G w G1 w4 := ((hx1.trans (.grow hg2)).trans (.grow hg3)).trans (.grow hg4)
    cases hf : c.fits [1] with
    | false =>
      simp (maxSteps := 1000000) (disch := omega) only [↓sy1, sy2, sy3, readOK, sy5, sy6, Nat.reduceEqDiff, ↓reduceIte, sy7, sy8, sy9, sya, oneOf, syb, syc, Nat.reduceAdd, Nat.reduceMul, syd, sye, syf, syg, syh, reduceCtorEq]
      exact R_out ⟨G1, hx4, Or.inl ⟨rfl, fun _ => hf, h4, h.2⟩⟩
    | true =>
      have hfirst := h.2.first1
      have hw1 := fits1 (n := 1) hf (by omega)
      simp (maxSteps := 1000000) (disch := omega) only [↓sy1, sy2, sy3, readOK, sy5, sy6, Nat.reduceEqDiff, ↓reduceIte, sy7, sy8, sy9, sya, oneOf, syb, syc, Nat.reduceAdd, Nat.reduceMul, syd, sye, syf, syg, syh, reduceCtorEq]
      refine call0 (turn_spec h4 (pg := 1) (i := firstN I) (.inl rfl) (by omega) hw1) ?_
      rintro _ w5 ⟨G5, h5, hx5⟩
      simp (maxSteps := 1000000) (disch := omega) only [↓sy1, sy2, sy3, readOK, sy5, sy6, Nat.reduceEqDiff, ↓reduceIte, sy7, sy8, sy9, sya, oneOf, syb, syc, Nat.reduceAdd, Nat.reduceMul, syd, sye, syf, syg, syh, reduceCtorEq]
      refine R_out ⟨G5, hx4.trans hx5, Or.inr ⟨rfl, hlt, hf, ?_, h.2.flipI f7 hfirst (firstN_at hlt)⟩⟩
      rw [List.length_set]; exact h5
  · rw [show firstZ I = -1 from if_neg hlt]
    simp (maxSteps := 1000000) (disch := omega) only [↓sy1, sy2, sy3, readOK, sy5, sy6, Nat.reduceEqDiff, ↓reduceIte, sy7, sy8, sy9, sya, oneOf, syb, syc, Nat.reduceAdd, Nat.reduceMul, syd, sye, syf, syg, syh, reduceCtorEq, show ((-1 : Int) < 0) from by omega, decide_true]
    exact R_out ⟨G1, hx1.trans (.grow hg2), Or.inl ⟨rfl, fun h => absurd h hlt, h1.grow hg2, h.2⟩⟩
/-- What giving back answers, if there is room. -/
def giveC (l : List Bool) (n least : Int) : Int := if n < least ∨ (l.length : Int) ≤ n then 2 else if l[n.toNat]? = some true then 0 else 4
def giveL (l : List Bool) (n least : Int) : List Bool := if giveC l n least = 0 then l.set n.toNat false else l
set_option maxHeartbeats 2000000 in
theorem give_spec (h : MapC G κ μ w m p lq came c k) {pg : Nat} (hpg : pg = 1 ∨ pg = 2) {L : List Bool} (hL : bitsOf (c.page pg) (nbits c k pg) = L) (h8 : 8 ≤ k) {n : Int} {least : Nat} :
    Calls Tryz.prog 48 #[.pointer (some ⟨m, 0, none⟩), .int .i64 pg, .int .i64 n, .int .i64 least] w (Ret fun v w' => ∃ G', Ext (fun x => x = μ) G w G' w' ∧
      v = .int .i64 (if giveC L n least = 0 ∧ c.fits [(pg : Int)] = false then 7 else giveC L n least) ∧ MapC G' κ μ w' m p lq came (if giveC L n least = 0 ∧ c.fits [(pg : Int)] = true then c.write pg (flipB (c.page pg) n.toNat) else c) k) := by
  have hn3 := h.n3
  have hnine := h.nine
  have hk5 := h.k5
  have hpl := h.cache.oks.plen (n := pg) (by omega)
  have hLl : L.length = nbits c k pg := by rw [← hL, bitsOf_length]
  have hnb : nbits c k pg ≤ 4096 := by unfold nbits; split <;> omega
  apply enter48
  apply R_in
  simp (maxSteps := 1000000) (disch := omega) only [↓sy1, sy2, sy3, readOK, sy5, sy6, Nat.reduceEqDiff, ↓reduceIte, sy7, sy8, sy9, sya, oneOf, syb, syc, Nat.reduceAdd, Nat.reduceMul, syd, sye, syf, syg, syh, reduceCtorEq, F48]
  refine call0 (mread_spec h hpg) ?_
  rintro _ w1 ⟨u, G1, rfl, hu, hub, h1, hx1⟩
  have huc := (Has.own hu).isCell
  have hg2 : Grow w1 (w1.alloc (.cells (Value.agg #[.slice none 0 0, .int .i64 0]).cells 83)) := (Keep.refl _ _).alloc _
  have hb2 := heap_alloc_new w1 (.cells (Value.agg #[.slice none 0 0, .int .i64 0]).cells 83)
  simp (maxSteps := 1000000) (disch := omega) only [↓sy1, sy2, sy3, readOK, sy5, sy6, Nat.reduceEqDiff, ↓reduceIte, sy7, sy8, sy9, sya, oneOf, syb, syc, Nat.reduceAdd, Nat.reduceMul, syd, sye, syf, syg, syh, reduceCtorEq]
  rw [agg2_cells (x := .slice none 0 0) (y := .int .i64 0) rfl rfl] at hg2 hb2 ⊢
  generalize w1.alloc (.cells #[.slice none 0 0, .int .i64 0] 83) = w2 at hg2 hb2 ⊢
  obtain ⟨w3, hst, hb3, hk3⟩ := stn2 (x := u) (y := .int .i64 (nbits c k pg)) hb2 huc rfl
  have hlt1 : ∀ b, u.ownBlock = some b → b < w1.heap.size := fun b hb => (World.ownsRow.lt hu b hb).2
  have hg3 : Grow w1 w3 := hg2.then hk3 (fun b hb hh => by omega)
  have hc3 : w3.cell? ⟨w1.heap.size, 1, none⟩ = some (.int .i64 (nbits c k pg)) := by rw [cell_block hb3]; rfl
  have hl3 : loadN w3 ⟨w1.heap.size, 0, none⟩ 0 2 = some [u, .int .i64 (nbits c k pg)] := loadN2 (by rw [cell_block hb3]; rfl) (by rw [cell_block hb3]; rfl)
  have h3 := h1.grow hg3
  have hx3 := hx1.trans (.grow hg3)
  by_cases hout : n < least ∨ (L.length : Int) ≤ n
  · have hcode : giveC L n least = 2 := if_pos hout
    rw [hcode, if_neg (by omega), if_neg (by omega)]
    by_cases hlo : n < least
    · simp (maxSteps := 1000000) (disch := omega) only [↓sy1, sy2, sy3, readOK, sy5, sy6, Nat.reduceEqDiff, ↓reduceIte, sy7, sy8, sy9, sya, oneOf, syb, syc, Nat.reduceAdd, Nat.reduceMul, syd, sye, syf, syg, syh, reduceCtorEq, hst, hlo, decide_true]
      exact R_out ⟨G1, hx3, h3⟩
    · simp (maxSteps := 1000000) (disch := omega) only [↓sy1, sy2, sy3, readOK, sy5, sy6, Nat.reduceEqDiff, ↓reduceIte, sy7, sy8, sy9, sya, oneOf, syb, syc, Nat.reduceAdd, Nat.reduceMul, syd, sye, syf, syg, syh, reduceCtorEq, hst, hlo, hc3, decide_false, show ((nbits c k pg : Nat) : Int) ≤ n from by omega, decide_true]
      exact R_out ⟨G1, hx3, h3⟩
  obtain ⟨i, rfl⟩ : ∃ i : Nat, n = i := ⟨n.toNat, by omega⟩
  have hi : i < nbits c k pg := by omega
  have hbit : L[i]? = some (bitB (c.page pg) i) := by rw [← hL, bitsOf_get hi]
  have hcode : giveC L i least = if bitB (c.page pg) i = true then 0 else 4 := by
    unfold giveC
    rw [if_neg hout, show ((i : Int).toNat) = i from rfl, hbit]
    simp
  rw [hcode]
  simp (maxSteps := 1000000) (disch := omega) only [↓sy1, sy2, sy3, readOK, sy5, sy6, Nat.reduceEqDiff, ↓reduceIte, sy7, sy8, sy9, sya, oneOf, syb, syc, Nat.reduceAdd, Nat.reduceMul, syd, sye, syf, syg, syh, reduceCtorEq, hst, show ¬ ((i : Int) < least) from by omega, hc3, decide_false, show ¬ (((nbits c k pg : Nat) : Int) ≤ (i : Int)) from by omega, hl3]
  refine call0 (bat_spec (b := c.page pg) (i := i) (Has.own (own_grow hu hg3)) (by omega) rfl (by omega)) ?_
  rintro _ w4 ⟨rfl, hg4⟩
  have h4 := h3.grow hg4
  have hx4 := hx3.trans (.grow hg4)
  cases hb : bitB (c.page pg) i with
  | false =>
    simp (maxSteps := 1000000) (disch := omega) only [↓sy1, sy2, sy3, readOK, sy5, sy6, Nat.reduceEqDiff, ↓reduceIte, sy7, sy8, sy9, sya, oneOf, syb, syc, Nat.reduceAdd, Nat.reduceMul, syd, sye, syf, syg, syh, reduceCtorEq, Int.reduceEq, Bool.false_eq_true, if_false, false_and]
    exact R_out ⟨G1, hx4, h4⟩
  | true =>
    simp (maxSteps := 1000000) (disch := omega) only [↓sy1, sy2, sy3, readOK, sy5, sy6, Nat.reduceEqDiff, ↓reduceIte, sy7, sy8, sy9, sya, oneOf, syb, syc, Nat.reduceAdd, Nat.reduceMul, syd, sye, syf, syg, syh, reduceCtorEq]
    have hg5 : Grow w4 (w4.alloc (.cells #[.int .i64 pg] 3)) := (Keep.refl _ _).alloc _
    have hb5 := heap_alloc_new w4 (.cells #[.int .i64 pg] 3)
    generalize w4.alloc (.cells #[.int .i64 pg] 3) = w5 at hg5 hb5 ⊢
    have h5 := h4.grow hg5
    refine call0 (fits_spec h5 (l := [(pg : Int)]) (HasI_block1 hb5) (by simp)) ?_
    rintro _ w6 ⟨rfl, hg6⟩
    have h6 := h5.grow hg6
    have hx6 := (hx4.trans (.grow hg5)).trans (.grow hg6)
    cases hf : c.fits [(pg : Int)] with
    | false =>
      simp (maxSteps := 1000000) (disch := omega) only [↓sy1, sy2, sy3, readOK, sy5, sy6, Nat.reduceEqDiff, ↓reduceIte, sy7, sy8, sy9, sya, oneOf, syb, syc, Nat.reduceAdd, Nat.reduceMul, syd, sye, syf, syg, syh, reduceCtorEq, Bool.false_eq_true, and_false, if_false, if_true, and_self]
      exact R_out ⟨G1, hx6, h6⟩
    | true =>
      have hw1 := fits1 (n := pg) hf (by omega)
      simp (maxSteps := 1000000) (disch := omega) only [↓sy1, sy2, sy3, readOK, sy5, sy6, Nat.reduceEqDiff, ↓reduceIte, sy7, sy8, sy9, sya, oneOf, syb, syc, Nat.reduceAdd, Nat.reduceMul, syd, sye, syf, syg, syh, reduceCtorEq, Bool.true_eq_false, and_false, if_false, if_true, and_self]
      refine call0 (turn_spec h6 (pg := pg) (i := i) hpg (by omega) hw1) ?_
      rintro _ w7 ⟨G7, h7, hx7⟩
      simp (maxSteps := 1000000) (disch := omega) only [↓sy1, sy2, sy3, readOK, sy5, sy6, Nat.reduceEqDiff, ↓reduceIte, sy7, sy8, sy9, sya, oneOf, syb, syc, Nat.reduceAdd, Nat.reduceMul, syd, sye, syf, syg, syh, reduceCtorEq]
      exact R_out ⟨G7, hx6.trans hx7, h7⟩
theorem first_map_spec (h : MapC G κ μ w m p lq came c k) : Calls Tryz.prog 13 #[.pointer (some ⟨m, 0, none⟩)] w (Ret fun v w' => v = .int .i64 ((3 + k / 8 : Nat) : Int) ∧ w' = w) := by
  have hk5 := h.k5
  apply enter13
  apply R_in
  simp (maxSteps := 1000000) (disch := omega) only [↓sy1, sy2, sy3, readOK, sy5, sy6, Nat.reduceEqDiff, ↓reduceIte, sy7, sy8, sy9, sya, oneOf, syb, syc, Nat.reduceAdd, Nat.reduceMul, syd, sye, syf, syg, syh, reduceCtorEq, F13, h.cells.2, tdiv8]
  exact R_out (congrArg (Value.int .i64) (by omega))
theorem inodes_spec (h : MapC G κ μ w m p lq came c k) : Calls Tryz.prog 53 #[.pointer (some ⟨m, 0, none⟩)] w (Ret fun v w' => v = .int .i64 k ∧ w' = w) := by
  apply enter53
  apply R_in
  simp (maxSteps := 1000000) (disch := omega) only [↓sy1, sy2, sy3, readOK, sy5, sy6, Nat.reduceEqDiff, ↓reduceIte, sy7, sy8, sy9, sya, oneOf, syb, syc, Nat.reduceAdd, Nat.reduceMul, syd, sye, syf, syg, syh, reduceCtorEq, F53, h.cells.2]
  exact R_out trivial
theorem mcache_spec (h : MapC G κ μ w m p lq came c k) : Calls Tryz.prog 43 #[.pointer (some ⟨m, 0, none⟩)] w (Ret fun v w' => v = .pointer (some ⟨p, 0, none⟩) ∧ w' = w) := by
  apply enter43
  apply R_in
  simp (maxSteps := 1000000) (disch := omega) only [↓sy1, sy2, sy3, readOK, sy5, sy6, Nat.reduceEqDiff, ↓reduceIte, sy7, sy8, sy9, sya, oneOf, syb, syc, Nat.reduceAdd, Nat.reduceMul, syd, sye, syf, syg, syh, reduceCtorEq, F43, h.cells.1]
  exact R_out trivial
/-- The page and the place of an inode, and whether there is one. -/
def tableC (k : Nat) (i : Int) : Value := if i < 0 ∨ (k : Int) ≤ i then .tuple #[.int .i64 0, .int .i64 0, .int .i64 2] else .tuple #[.int .i64 (3 + i / 8), .int .i64 (64 * (i % 8)), .int .i64 0]
theorem table_spec (h : MapC G κ μ w m p lq came c k) {i : Int} : Calls Tryz.prog 22 #[.pointer (some ⟨m, 0, none⟩), .int .i64 i] w (Ret fun v w' => v = tableC k i ∧ w' = w) := by
  have hk5 := h.k5
  apply enter22
  apply R_in
  by_cases hi : i < 0 ∨ (k : Int) ≤ i
  · rw [tableC, if_pos hi]
    by_cases h0 : i < 0
    · simp (maxSteps := 1000000) (disch := omega) only [↓sy1, sy2, sy3, readOK, sy5, sy6, Nat.reduceEqDiff, ↓reduceIte, sy7, sy8, sy9, sya, oneOf, syb, syc, Nat.reduceAdd, Nat.reduceMul, syd, sye, syf, syg, syh, reduceCtorEq, F22, h.cells.2, h0, decide_true]
      exact R_out trivial
    · simp (maxSteps := 1000000) (disch := omega) only [↓sy1, sy2, sy3, readOK, sy5, sy6, Nat.reduceEqDiff, ↓reduceIte, sy7, sy8, sy9, sya, oneOf, syb, syc, Nat.reduceAdd, Nat.reduceMul, syd, sye, syf, syg, syh, reduceCtorEq, F22, h.cells.2, h0, decide_false, show (k : Int) ≤ i from by omega, decide_true]
      exact R_out trivial
  · rw [tableC, if_neg hi]
    obtain ⟨j, rfl⟩ : ∃ j : Nat, i = j := ⟨i.toNat, by omega⟩
    have hm : (((j % 8 : Nat) : Int) * 512).tdiv 8 = 64 * ((j : Int) % 8) := by
      rw [show ((j % 8 : Nat) : Int) * 512 = ((j % 8 * 512 : Nat) : Int) from by omega, tdiv8]; omega
    simp (maxSteps := 1000000) (disch := omega) only [↓sy1, sy2, sy3, readOK, sy5, sy6, Nat.reduceEqDiff, ↓reduceIte, sy7, sy8, sy9, sya, oneOf, syb, syc, Nat.reduceAdd, Nat.reduceMul, syd, sye, syf, syg, syh, reduceCtorEq, F22, h.cells.2, show ¬ ((j : Int) < 0) from by omega, decide_false, show ¬ ((k : Int) ≤ (j : Int)) from by omega, tdiv8, tmod8, hm]
    refine R_out ?_
    rw [show (3 : Int) + ((j / 8 : Nat) : Int) = 3 + (j : Int) / 8 from by omega]
/-- Is one taken? -/
def usedC (l : List Bool) (n : Int) : Bool := decide (0 ≤ n ∧ n < l.length) && l.getD n.toNat false
set_option maxHeartbeats 1000000 in
theorem is_spec (h : MapC G κ μ w m p lq came c k) {pg : Nat} (hpg : pg = 1 ∨ pg = 2) {L : List Bool} (hL : bitsOf (c.page pg) (nbits c k pg) = L) {n : Int} :
    Calls Tryz.prog 44 #[.pointer (some ⟨m, 0, none⟩), .int .i64 pg, .int .i64 n] w (Ret fun v w' => v = .bool (usedC L n) ∧ ∃ G', Ext (fun x => x = μ) G w G' w' ∧ MapC G' κ μ w' m p lq came c k) := by
  have hn3 := h.n3
  have hnine := h.nine
  have hk5 := h.k5
  have hpl := h.cache.oks.plen (n := pg) (by omega)
  have hLl : L.length = nbits c k pg := by rw [← hL, bitsOf_length]
  have hnb : nbits c k pg ≤ 4096 := by unfold nbits; split <;> omega
  apply enter44
  apply R_in
  by_cases h0 : n < 0
  · simp (maxSteps := 1000000) (disch := omega) only [↓sy1, sy2, sy3, readOK, sy5, sy6, Nat.reduceEqDiff, ↓reduceIte, sy7, sy8, sy9, sya, oneOf, syb, syc, Nat.reduceAdd, Nat.reduceMul, syd, sye, syf, syg, syh, reduceCtorEq, F44, h0, decide_true]
    refine R_out ⟨?_, G, .refl _ _ _, h⟩
    simp [usedC]; omega
  simp (maxSteps := 1000000) (disch := omega) only [↓sy1, sy2, sy3, readOK, sy5, sy6, Nat.reduceEqDiff, ↓reduceIte, sy7, sy8, sy9, sya, oneOf, syb, syc, Nat.reduceAdd, Nat.reduceMul, syd, sye, syf, syg, syh, reduceCtorEq, F44, h0, decide_false]
  refine call0 (mread_spec h hpg) ?_
  rintro _ w1 ⟨u, G1, rfl, hu, hub, h1, hx1⟩
  have huc := (Has.own hu).isCell
  have hg2 : Grow w1 (w1.alloc (.cells (Value.agg #[.slice none 0 0, .int .i64 0]).cells 83)) := (Keep.refl _ _).alloc _
  have hb2 := heap_alloc_new w1 (.cells (Value.agg #[.slice none 0 0, .int .i64 0]).cells 83)
  simp (maxSteps := 1000000) (disch := omega) only [↓sy1, sy2, sy3, readOK, sy5, sy6, Nat.reduceEqDiff, ↓reduceIte, sy7, sy8, sy9, sya, oneOf, syb, syc, Nat.reduceAdd, Nat.reduceMul, syd, sye, syf, syg, syh, reduceCtorEq]
  rw [agg2_cells (x := .slice none 0 0) (y := .int .i64 0) rfl rfl] at hg2 hb2 ⊢
  generalize w1.alloc (.cells #[.slice none 0 0, .int .i64 0] 83) = w2 at hg2 hb2 ⊢
  obtain ⟨w3, hst, hb3, hk3⟩ := stn2 (x := u) (y := .int .i64 (nbits c k pg)) hb2 huc rfl
  have hg3 : Grow w1 w3 := hg2.then hk3 (fun b hb hh => by omega)
  have hc3 : w3.cell? ⟨w1.heap.size, 1, none⟩ = some (.int .i64 (nbits c k pg)) := by rw [cell_block hb3]; rfl
  have hl3 : loadN w3 ⟨w1.heap.size, 0, none⟩ 0 2 = some [u, .int .i64 (nbits c k pg)] := loadN2 (by rw [cell_block hb3]; rfl) (by rw [cell_block hb3]; rfl)
  have h3 := h1.grow hg3
  have hx3 := hx1.trans (.grow hg3)
  obtain ⟨i, rfl⟩ : ∃ i : Nat, n = i := ⟨n.toNat, by omega⟩
  by_cases hi : i < nbits c k pg
  · have hbit : L[i]? = some (bitB (c.page pg) i) := by rw [← hL, bitsOf_get hi]
    simp (maxSteps := 1000000) (disch := omega) only [↓sy1, sy2, sy3, readOK, sy5, sy6, Nat.reduceEqDiff, ↓reduceIte, sy7, sy8, sy9, sya, oneOf, syb, syc, Nat.reduceAdd, Nat.reduceMul, syd, sye, syf, syg, syh, reduceCtorEq, hst, hc3, Int.ofNat_lt, hi, decide_true, hl3]
    refine call0 (bat_spec (b := c.page pg) (i := i) (Has.own (own_grow hu hg3)) (by omega) rfl (by omega)) ?_
    rintro _ w4 ⟨rfl, hg4⟩
    simp (maxSteps := 1000000) (disch := omega) only [↓sy1, sy2, sy3, readOK, sy5, sy6, Nat.reduceEqDiff, ↓reduceIte, sy7, sy8, sy9, sya, oneOf, syb, syc, Nat.reduceAdd, Nat.reduceMul, syd, sye, syf, syg, syh, reduceCtorEq]
    refine R_out ⟨?_, G1, hx3.trans (.grow hg4), h3.grow hg4⟩
    have h4 : usedC L (i : Int) = bitB (c.page pg) i := by
      unfold usedC
      rw [decide_eq_true (by omega), Bool.true_and, show ((i : Int).toNat) = i from rfl, List.getD_eq_getElem?_getD, hbit]; rfl
    rw [h4]
  · simp (maxSteps := 1000000) (disch := omega) only [↓sy1, sy2, sy3, readOK, sy5, sy6, Nat.reduceEqDiff, ↓reduceIte, sy7, sy8, sy9, sya, oneOf, syb, syc, Nat.reduceAdd, Nat.reduceMul, syd, sye, syf, syg, syh, reduceCtorEq, hst, hc3, Int.ofNat_lt, hi, decide_false]
    refine R_out ⟨?_, G1, hx3, h3⟩
    have h4 : usedC L (i : Int) = false := by
      unfold usedC
      rw [decide_eq_false (by omega)]; rfl
    rw [h4]
end
end Go.Proofs.YtbnecclognibaaaGreat

/- Small whole numbers as floats; sums of complex numbers; their parts. -/
namespace Go.Proofs.YtbnecclognibaaaGreat
open Go
set_option linter.unusedSimpArgs false
def flt (n : Nat) : Nat := FloatKind.f64.format.nearest false n 0
def fltChk (n : Nat) : Bool := decide (floatBits .add .f64 (flt n) (flt 1) = some (flt (n + 1))) && decide (floatBits .add .f64 (flt n) (flt 0) = some (flt n)) && decide (floatToIntVal .f64 (flt n) .i64 = some (n : Int))
def fltRow : (from_ todo : Nat) → Bool
  | _, 0 => true
  | a, n + 1 => fltChk a && fltRow (a + 1) n
theorem fltRow_at : ∀ {todo a n : Nat}, fltRow a todo = true → a ≤ n → n < a + todo → fltChk n = true
  | 0, a, n, _, h1, h2 => by omega
  | todo + 1, a, n, h, h1, h2 => by
    simp only [fltRow, Bool.and_eq_true] at h
    by_cases ha : a = n
    · subst ha; exact h.1
    · exact fltRow_at h.2 (by omega) (by omega)
def fltTop : Nat := 525
theorem flt_row0 : fltRow 0 525 = true := by kernel_rfl
theorem flt_at {n : Nat} (h : n < fltTop) : fltChk n = true := fltRow_at flt_row0 (by omega) (by unfold fltTop at h; omega)
theorem flt_add {n x : Nat} (h : n < fltTop) (hx : x ≤ 1) : floatBits .add .f64 (flt n) (flt x) = some (flt (n + x)) := by
  have h1 := flt_at h
  simp only [fltChk, Bool.and_eq_true, decide_eq_true_eq] at h1
  rcases Nat.lt_or_ge x 1 with h2 | h2
  · rw [show x = 0 by omega]; exact h1.1.2
  · rw [show x = 1 by omega]; exact h1.1.1
theorem flt_int {n : Nat} (h : n < fltTop) : floatToIntVal .f64 (flt n) .i64 = some (n : Int) := by
  have h1 := flt_at h
  simp only [fltChk, Bool.and_eq_true, decide_eq_true_eq] at h1
  exact h1.2
theorem flt0 : flt 0 = 0 := by kernel_rfl
theorem flt1 : flt 1 = 4607182418800017408 := by kernel_rfl
/-- Two counts as one number. -/
def cpx (a b : Nat) : Value := .complex .f64 (flt a) (flt b)
section
variable {P : Program} {k : Kont} {e : Env} {w : World} {l : List GOp} {d : Option Nat}
theorem cadd_rule {x y : Operand} {t yt ty : TypeId} {a b c f : Nat} (hx : ev e x = cpx a b) (hy : ev e y = cpx c f) (ha : a < fltTop) (hb : b < fltTop) (hc : c ≤ 1) (hf : f ≤ 1)
    (h : R (symOps P l k (updO e d (cpx (a + c) (b + f))) w)) : R (symOps P (⟨d, .hard (H (.binOp .add t x y yt) ty), none⟩ :: l) k e w) := by
  refine hard_rule ?_ h
  have h1 : cSumBits .add .f64 (flt a) (flt b) (flt c) (flt f) = some (flt (a + c), flt (b + f)) := by
    simp [cSumBits, flt_add ha hc, flt_add hb hf]
  have h2 := run_complex_sum (P := P) w .add (.inl rfl) t .f64 _ _ _ _ _ _ h1
  simp [execOp, H, hx, hy, cpx, h2, eqGuard]
theorem real_rule {x : Operand} {ts : Array TypeId} {ty : TypeId} {a b : Nat} (hx : ev e x = cpx a b) (h : R (symOps P l k (updO e d (.float .f64 (flt a))) w)) :
    R (symOps P (⟨d, .hard (H (.call { callee := .builtin .real, args := #[x], argTypes := ts }) ty), none⟩ :: l) k e w) :=
  hard_rule (run_builtin (vs := [cpx a b]) (by simp [hx]) (fun cs => by simp [builtin, cpx, Go.run_real, Go.run_imag])) h
theorem imag_rule {x : Operand} {ts : Array TypeId} {ty : TypeId} {a b : Nat} (hx : ev e x = cpx a b) (h : R (symOps P l k (updO e d (.float .f64 (flt b))) w)) :
    R (symOps P (⟨d, .hard (H (.call { callee := .builtin .imag, args := #[x], argTypes := ts }) ty), none⟩ :: l) k e w) :=
  hard_rule (run_builtin (vs := [cpx a b]) (by simp [hx]) (fun cs => by simp [builtin, cpx, Go.run_real, Go.run_imag])) h
theorem toint_rule {x : Operand} {s t ty : TypeId} {a : Nat} (hs : (P.underlying s).isSome = true) (ht : P.underlying t = some (.int .i64)) (hx : ev e x = .float .f64 (flt a)) (ha : a < fltTop) (h : R (symOps P l k (updO e d (.int .i64 a)) w)) :
    R (symOps P (⟨d, .hard (H (.convert s t x) ty), none⟩ :: l) k e w) := by
  refine hard_rule ?_ h
  have h2 := run_convert_float_int (P := P) w s t .f64 .i64 (flt a) a hs ht (flt_int ha)
  simp only [execOp, H, hx, Sem.run_bind, h2, Result.andThen_ok]; rfl
end
end Go.Proofs.YtbnecclognibaaaGreat

/- How many pages and inodes are free: two counts as one complex number. -/
namespace Go.Proofs.YtbnecclognibaaaGreat
open Go
set_option linter.unusedSimpArgs false
open Go.RowKit (intOf)
theorem cpx0 : Value.complex .f64 0 0 = cpx 0 0 := by rw [cpx, flt0]
theorem cpx10 : Value.complex .f64 4607182418800017408 0 = cpx 1 0 := by rw [cpx, flt0, flt1]
theorem cpx01 : Value.complex .f64 0 4607182418800017408 = cpx 0 1 := by rw [cpx, flt0, flt1]
theorem underMC : Tryz.prog.underlying 129 = some (.map 3 104) := by kernel_rfl
theorem ins_rule {k : Kont} {e : Env} {w : World} {l : List GOp} {d : Option Nat} {t ty : TypeId} {m x v : Operand} (h : R (symOps Tryz.prog (⟨d, .hard (H (.mapUpdate t m x v) ty), none⟩ :: l) k e w)) : R (symOps Tryz.prog (⟨d, .hard (H (.insert t m x v) ty), none⟩ :: l) k e w) := h
theorem Ext.onIter {μ : Nat} {G : Gh} {w w' : World} {r m' clk lim : Nat} {sn : Array Nat} (hr : w.heap[r]? = some (.mapIter (some m') clk sn lim)) (hk : Keep (fun b => b = r) w w') (ho : G.own r = μ) : Ext (fun c => c = μ) G w G w' :=
  .one hk (fun _ => ho) (fun _ i v _ hc => by simp [World.cell?, hr] at hc)
def bothE : Array MapEntry := #[⟨.int .i64 2, cpx 1 0, 0⟩, ⟨.int .i64 1, cpx 0 1, 1⟩]
theorem bothE_ok : MapOk bothE.toList 2 := ⟨by simp [bothE], by simp [bothE], by simp [bothE]⟩
theorem bothE_mem {y : MapEntry} (h : y ∈ bothE.toList) : y = ⟨.int .i64 2, cpx 1 0, 0⟩ ∨ y = ⟨.int .i64 1, cpx 0 1, 1⟩ := by simpa [bothE] using h
theorem freeN_bits {b : List UInt8} {n i : Nat} (hi : i < n) : freeN ((bitsOf b n).take (i + 1)) = freeN ((bitsOf b n).take i) + if bitB b i then 0 else 1 := freeN_take (bitsOf_get hi)
theorem freeN_take_le (l : List Bool) (i : Nat) : freeN (l.take i) ≤ l.length := Nat.le_trans (freeN_le _) (by rw [List.length_take]; omega)
section
variable {G G' : Gh} {κ μ m p lq came k : Nat} {w w' : World} {c : Csh} {P I : List Bool}
set_option maxHeartbeats 4000000 in
theorem both_spec (h : MapAt G κ μ w m p lq came c P I) (hP : P.length < 525) :
    Calls Tryz.prog 67 #[.pointer (some ⟨m, 0, none⟩)] w (Ret fun v w' => v = cpx (freeN P) (freeN I) ∧ ∃ G', Ext (fun x => x = μ) G w G' w' ∧ MapC G' κ μ w' m p lq came c I.length) := by
  obtain ⟨f1, f2, f3, f4, f5, f6, f7, f8⟩ := h.facts
  have hne := h.1.cache.ne
  have hn6 := h.1.ne
  apply enter67
  apply R_in
  simp (maxSteps := 1000000) (disch := omega) only [↓sy1, sy2, sy3, readOK, sy5, sy6, Nat.reduceEqDiff, ↓reduceIte, sy7, sy8, sy9, sya, oneOf, syb, syc, Nat.reduceAdd, Nat.reduceMul, syd, sye, syf, syg, syh, reduceCtorEq, F67]
  have hg0 : Grow w (w.alloc (.map #[] 0)) := (Keep.refl _ _).alloc _
  have hb0 := heap_alloc_new w (.map #[] 0)
  generalize w.alloc (.map #[] 0) = w0 at hg0 hb0 ⊢
  have hK : MapOk (#[] : Array MapEntry).toList 0 := ⟨by simp, by simp, by simp⟩
  refine ins_rule (put_rule (kk := .i64) (n := 2) (v := .complex .f64 4607182418800017408 0) (by simp only [upd_at, Nat.reduceEqDiff, reduceIte, ev_tmp, ev_const, List.map_cons, List.map_nil]) (by simp only [upd_at, Nat.reduceEqDiff, reduceIte, ev_tmp, ev_const, List.map_cons, List.map_nil]) (by simp only [upd_at, Nat.reduceEqDiff, reduceIte, ev_tmp, ev_const, List.map_cons, List.map_nil]) underMC underI hb0 (fun y hy => by simp at hy) (fun _ w1 hk1 hb1 => ?_) (fun j y hj _ => by simp at hj))
  simp (maxSteps := 1000000) (disch := omega) only [↓sy1, sy2, sy3, readOK, sy5, sy6, Nat.reduceEqDiff, ↓reduceIte, sy7, sy8, sy9, sya, oneOf, syb, syc, Nat.reduceAdd, Nat.reduceMul, syd, sye, syf, syg, syh, reduceCtorEq]
  refine ins_rule (put_rule (kk := .i64) (n := 1) (v := .complex .f64 0 4607182418800017408) (by simp only [upd_at, Nat.reduceEqDiff, reduceIte, ev_tmp, ev_const, List.map_cons, List.map_nil]) (by simp only [upd_at, Nat.reduceEqDiff, reduceIte, ev_tmp, ev_const, List.map_cons, List.map_nil]) (by simp only [upd_at, Nat.reduceEqDiff, reduceIte, ev_tmp, ev_const, List.map_cons, List.map_nil]) underMC underI hb1 (fun y hy => by simp at hy; subst hy; exact ⟨2, rfl⟩) (fun _ w2 hk2 hb2 => ?_) (fun j y hj hy => by
    have := List.mem_of_getElem? hj
    simp at this; subst this
    have := (Value.int.inj hy).2; omega))
  have hb2 : w2.heap[w.heap.size]? = some (.map bothE 2) := by
    rw [hb2]; simp [bothE, cpx10, cpx01]
  have hg2 : Grow w w2 := (hg0.then hk1 (fun b hb hh => by omega)).then hk2 (fun b hb hh => by omega)
  clear hk1 hb1 hk2 hb0 hg0 hK
  simp (maxSteps := 1000000) (disch := omega) only [↓sy1, sy2, sy3, readOK, sy5, sy6, Nat.reduceEqDiff, ↓reduceIte, sy7, sy8, sy9, sya, oneOf, syb, syc, Nat.reduceAdd, Nat.reduceMul, syd, sye, syf, syg, syh, reduceCtorEq]
  refine range_rule (m := w.heap.size) (by simp only [upd_at, Nat.reduceEqDiff, reduceIte, ev_tmp, ev_const, List.map_cons, List.map_nil]) underMC hb2 ?_
  have hg3 : Grow w2 (w2.alloc (.mapIter (some w.heap.size) 2 #[] 2)) := (Keep.refl _ _).alloc _
  have hr3 := heap_alloc_new w2 (.mapIter (some w.heap.size) 2 #[] 2)
  have hrw : w.heap.size < w2.heap.size := (Array.getElem?_eq_some_iff.1 hb2).1
  have hr3s : (w2.alloc (.mapIter (some w.heap.size) 2 #[] 2)).heap.size = w2.heap.size + 1 := by simp
  generalize w2.alloc (.mapIter (some w.heap.size) 2 #[] 2) = w3 at hg3 hr3 hr3s ⊢
  generalize w2.heap.size = r at hr3 hrw hr3s ⊢
  have hb3 := hg3.gheap hb2
  have hx3 : Ext0 G w (G.upto w.heap.size (fun _ => 6) (fun _ => 0)) w3 := .upto (hg2.trans hg3) _ _
  have h3 := h.1.ext hx3 id id id
  have hom : (G.upto w.heap.size (fun _ => 6) (fun _ => 0)).own w.heap.size = 6 ∧ (G.upto w.heap.size (fun _ => 6) (fun _ => 0)).own r = 6 := ⟨(upto_own (Nat.le_refl _)).1, (upto_own (by omega)).1⟩
  generalize (G.upto w.heap.size (fun _ => 6) (fun _ => 0)) = G3 at hx3 h3 hom
  simp (maxSteps := 1000000) (disch := omega) only [↓sy1, sy2, sy3, readOK, sy5, sy6, Nat.reduceEqDiff, ↓reduceIte, sy7, sy8, sy9, sya, oneOf, syb, syc, Nat.reduceAdd, Nat.reduceMul, syd, sye, syf, syg, syh, reduceCtorEq]
  refine mloop_rule (r := r) (m := w.heap.size) (clk := 2) (es := bothE) (fun seen e w' => ∃ G', e 0 = .pointer (some ⟨m, 0, none⟩) ∧ e 10 = .pointer (some ⟨r, 0, none⟩) ∧ e 3 = cpx (if 0 ∈ seen then freeN P else 0) (if 1 ∈ seen then freeN I else 0) ∧
      MapC G' κ μ w' m p lq came c I.length ∧ Ext (fun x => x = μ) G w G' w' ∧ w'.heap[w.heap.size]? = some (.map bothE 2) ∧ G'.own w.heap.size = 6 ∧ G'.own r = 6 ∧ r < w'.heap.size)
    hr3 ⟨G3, by simp [upd, updO, ev], by simp [upd, updO, ev], by simp [upd, updO, ev, cpx0], h3, hx3.mono (fun _ h => h.elim), hb3, hom.1, hom.2, by omega⟩ ?_
  rintro seen e w4 hr4 ⟨G4, e0, e10, e3, h4, hx4, hb4, ho4, hor4, hr4s⟩
  simp (maxSteps := 1000000) (disch := omega) only [↓sy1, sy2, sy3, readOK, sy5, sy6, Nat.reduceEqDiff, ↓reduceIte, sy7, sy8, sy9, sya, oneOf, syb, syc, Nat.reduceAdd, Nat.reduceMul, syd, sye, syf, syg, syh, reduceCtorEq, F67_L1, e0, e10, e3]
  refine next_rule (by simp only [upd_at, Nat.reduceEqDiff, reduceIte, ev_tmp, ev_const, List.map_cons, List.map_nil, e10]) hr4 hb4 bothE_ok (fun hend => ?_) (fun y hy hyn w5 hk5 hr5 => ?_)
  · have s0 : 0 ∈ seen := hend ⟨.int .i64 2, cpx 1 0, 0⟩ (by simp [bothE])
    have s1 : 1 ∈ seen := hend ⟨.int .i64 1, cpx 0 1, 1⟩ (by simp [bothE])
    rw [if_pos s0, if_pos s1] at e3
    simp (maxSteps := 1000000) (disch := omega) only [↓sy1, sy2, sy3, readOK, sy5, sy6, Nat.reduceEqDiff, ↓reduceIte, sy7, sy8, sy9, sya, oneOf, syb, syc, Nat.reduceAdd, Nat.reduceMul, syd, sye, syf, syg, syh, reduceCtorEq, e3]
    exact R_out ⟨G4, hx4, h4⟩
  have hb5 : w5.heap[w.heap.size]? = some (.map bothE 2) := hk5.heap hb4 (by omega)
  have h5 : MapC G4 κ μ w5 m p lq came c I.length := h4.ext (K := fun x => x = 6) (.onIter hr4 hk5 hor4) hn6.1 hn6.2 (by omega)
  have hx5 : Ext (fun x => x = μ) G w G4 w5 := hx4.then hk5 (by omega)
  simp (maxSteps := 1000000) (disch := omega) only [↓sy1, sy2, sy3, readOK, sy5, sy6, Nat.reduceEqDiff, ↓reduceIte, sy7, sy8, sy9, sya, oneOf, syb, syc, Nat.reduceAdd, Nat.reduceMul, syd, sye, syf, syg, syh, reduceCtorEq]
  refine entry_rule (by simp only [upd_at, Nat.reduceEqDiff, reduceIte, ev_tmp, ev_const, List.map_cons, List.map_nil, e10]) hr5 hb5 bothE_ok hy ?_
  generalize hA : (if 0 ∈ seen then freeN P else 0) = A at e3 ⊢
  generalize hB : (if 1 ∈ seen then freeN I else 0) = B at e3 ⊢
  have hfP := freeN_le P
  have hfI := freeN_le I
  obtain ⟨pg, L, x, yy, hpg, hL, hx1, hy1, hyk, hyv, hAx, hBy⟩ : ∃ (pg : Nat) (L : List Bool) (x yy : Nat), (pg = 1 ∨ pg = 2) ∧ bitsOf (c.page pg) (nbits c I.length pg) = L ∧ x ≤ 1 ∧ yy ≤ 1 ∧ y.key = .int .i64 pg ∧ y.val = cpx x yy ∧
      A + x * freeN L = (if 0 ∈ seen ++ [y.born] then freeN P else 0) ∧ B + yy * freeN L = (if 1 ∈ seen ++ [y.born] then freeN I else 0) := by
    rcases bothE_mem hy with rfl | rfl
    · refine ⟨2, P, 1, 0, .inr rfl, h.2.p, by omega, by omega, rfl, rfl, ?_, ?_⟩
      · rw [← hA, if_neg hyn, if_pos (by simp)]; omega
      · rw [← hB, Nat.zero_mul, Nat.add_zero]; simp
    · refine ⟨1, I, 0, 1, .inl rfl, h.2.i, by omega, by omega, rfl, rfl, ?_, ?_⟩
      · rw [← hA, Nat.zero_mul, Nat.add_zero]; simp
      · rw [← hB, if_neg hyn, if_pos (by simp)]; omega
  have hA' : A + x * freeN L < 525 := by rw [hAx]; split <;> omega
  have hB' : B + yy * freeN L < 525 := by rw [hBy]; split <;> omega
  have hLl : L.length = nbits c I.length pg := by rw [← hL, bitsOf_length]
  have hnb : nbits c I.length pg < 525 := by
    unfold nbits; split <;> omega
  have hpl : (c.page pg).length = 512 := by rcases hpg with rfl | rfl <;> assumption
  simp (maxSteps := 1000000) (disch := omega) only [↓sy1, sy2, sy3, readOK, sy5, sy6, Nat.reduceEqDiff, ↓reduceIte, sy7, sy8, sy9, sya, oneOf, syb, syc, Nat.reduceAdd, Nat.reduceMul, syd, sye, syf, syg, syh, reduceCtorEq, hyk, hyv, e0]
  refine call0 (mread_spec h5 hpg) ?_
  rintro _ w6 ⟨u, G6, rfl, hu, hub, h6, hx6⟩
  have huc := (Has.own hu).isCell
  have hg7 : Grow w6 (w6.alloc (.cells (Value.agg #[.slice none 0 0, .int .i64 0]).cells 83)) := (Keep.refl _ _).alloc _
  have hb7 := heap_alloc_new w6 (.cells (Value.agg #[.slice none 0 0, .int .i64 0]).cells 83)
  simp (maxSteps := 1000000) (disch := omega) only [↓sy1, sy2, sy3, readOK, sy5, sy6, Nat.reduceEqDiff, ↓reduceIte, sy7, sy8, sy9, sya, oneOf, syb, syc, Nat.reduceAdd, Nat.reduceMul, syd, sye, syf, syg, syh, reduceCtorEq]
  rw [agg2_cells (x := .slice none 0 0) (y := .int .i64 0) rfl rfl] at hg7 hb7 ⊢
  generalize w6.alloc (.cells #[.slice none 0 0, .int .i64 0] 83) = w7 at hg7 hb7 ⊢
  obtain ⟨w8, hst, hb8, hk8⟩ := stn2 (x := u) (y := .int .i64 (nbits c I.length pg)) hb7 huc rfl
  have hg8 : Grow w6 w8 := hg7.then hk8 (fun b hb hh => by omega)
  have hc8 : w8.cell? ⟨w6.heap.size, 1, none⟩ = some (.int .i64 (nbits c I.length pg)) := by rw [cell_block hb8]; rfl
  have hu8 := own_grow hu hg8
  have hr5s : r < w5.heap.size := (Array.getElem?_eq_some_iff.1 hr5).1
  have hm5s : w.heap.size < w5.heap.size := (Array.getElem?_eq_some_iff.1 hb5).1
  have hr6 := hx6.heap hr5 (by rw [hor4]; exact fun hh => hn6.2 hh.symm)
  have hb6 := hx6.heap hb5 (by rw [ho4]; exact fun hh => hn6.2 hh.symm)
  have ho6 : G6.own w.heap.size = 6 ∧ G6.own r = 6 := by rw [hx6.own _ hm5s, hx6.own _ hr5s]; exact ⟨ho4, hor4⟩
  simp (maxSteps := 1000000) (disch := omega) only [↓sy1, sy2, sy3, readOK, sy5, sy6, Nat.reduceEqDiff, ↓reduceIte, sy7, sy8, sy9, sya, oneOf, syb, syc, Nat.reduceAdd, Nat.reduceMul, syd, sye, syf, syg, syh, reduceCtorEq, hst, hc8]
  refine loop_rule (fun e w' => ∃ i : Nat, i ≤ nbits c I.length pg ∧ e 21 = .int .i64 i ∧ e 20 = .int .i64 (nbits c I.length pg) ∧ e 6 = .pointer (some ⟨w6.heap.size, 0, none⟩) ∧ e 5 = cpx x yy ∧ e 3 = cpx (A + x * freeN (L.take i)) (B + yy * freeN (L.take i)) ∧ e 0 = .pointer (some ⟨m, 0, none⟩) ∧ e 10 = .pointer (some ⟨r, 0, none⟩) ∧ Grow w8 w') (fun e _ => nbits c I.length pg - (intOf (e 21)).toNat)
    ⟨0, by omega, by simp [upd, updO, ev], by simp [upd, updO, ev], by simp [upd, updO, ev], by simp [upd, updO, ev, hyv], by simp [upd, updO, ev, e3, freeN], by simp [upd, updO, ev, e0], by simp [upd, updO, ev, e10], Keep.refl _ _⟩ ?_
  clear e0 e10 e3
  rintro e w9 ⟨i, hi, e21, e20, e6, e5, e3, e0, e10, hg9⟩
  have hl9 : loadN w9 ⟨w6.heap.size, 0, none⟩ 0 2 = some [u, .int .i64 (nbits c I.length pg)] := loadN2 (by rw [cell_block (hg9.gheap hb8)]; rfl) (by rw [cell_block (hg9.gheap hb8)]; rfl)
  by_cases hlt : i < nbits c I.length pg
  · simp (maxSteps := 1000000) (disch := omega) only [↓sy1, sy2, sy3, readOK, sy5, sy6, Nat.reduceEqDiff, ↓reduceIte, sy7, sy8, sy9, sya, oneOf, syb, syc, Nat.reduceAdd, Nat.reduceMul, syd, sye, syf, syg, syh, reduceCtorEq, F67_L0, e21, e20, e6, e5, e3, e0, e10, Int.ofNat_lt, hlt, decide_true, hl9]
    refine call0 (bat_spec (b := c.page pg) (i := i) (Has.own (own_grow hu8 hg9)) (by omega) rfl (by omega)) ?_
    rintro _ w10 ⟨rfl, hg10⟩
    have hstep : freeN (L.take (i + 1)) = freeN (L.take i) + if bitB (c.page pg) i then 0 else 1 := by rw [← hL]; exact freeN_bits hlt
    cases hb : bitB (c.page pg) i with
    | true =>
      rw [hb, if_pos rfl, Nat.add_zero] at hstep
      simp (maxSteps := 1000000) (disch := omega) only [↓sy1, sy2, sy3, readOK, sy5, sy6, Nat.reduceEqDiff, ↓reduceIte, sy7, sy8, sy9, sya, oneOf, syb, syc, Nat.reduceAdd, Nat.reduceMul, syd, sye, syf, syg, syh, reduceCtorEq, e21, e20, e6, e5, e3, e0, e10]
      exact R_out ⟨⟨i + 1, by omega, rfl, by rw [hstep]; rfl, hg9.trans hg10⟩, by simp only [intOf]; omega⟩
    | false =>
      rw [hb, if_neg (by simp)] at hstep
      have hle : freeN (L.take (i + 1)) ≤ freeN L := by
        unfold freeN; exact List.Sublist.count_le false (List.take_sublist _ _)
      have hxa := Nat.mul_le_mul_left x hle
      have hya := Nat.mul_le_mul_left yy hle
      rw [hstep, Nat.mul_add, Nat.mul_one] at hxa hya
      simp (maxSteps := 1000000) (disch := omega) only [↓sy1, sy2, sy3, readOK, sy5, sy6, Nat.reduceEqDiff, ↓reduceIte, sy7, sy8, sy9, sya, oneOf, syb, syc, Nat.reduceAdd, Nat.reduceMul, syd, sye, syf, syg, syh, reduceCtorEq, e21, e20, e6, e5, e3, e0, e10]
      refine cadd_rule (a := A + x * freeN (L.take i)) (b := B + yy * freeN (L.take i)) (c := x) (f := yy) (by simp only [upd_at, Nat.reduceEqDiff, reduceIte, ev_tmp, ev_const, List.map_cons, List.map_nil]) (by simp only [upd_at, Nat.reduceEqDiff, reduceIte, ev_tmp, ev_const, List.map_cons, List.map_nil]) (by unfold fltTop; omega) (by unfold fltTop; omega) hx1 hy1 ?_
      simp (maxSteps := 1000000) (disch := omega) only [↓sy1, sy2, sy3, readOK, sy5, sy6, Nat.reduceEqDiff, ↓reduceIte, sy7, sy8, sy9, sya, oneOf, syb, syc, Nat.reduceAdd, Nat.reduceMul, syd, sye, syf, syg, syh, reduceCtorEq, e21, e20, e6, e5, e3, e0, e10]
      refine R_out ⟨⟨i + 1, by omega, rfl, ?_, hg9.trans hg10⟩, by simp only [intOf]; omega⟩
      rw [hstep, Nat.mul_add, Nat.mul_add, Nat.mul_one, Nat.mul_one, Nat.add_assoc, Nat.add_assoc]
  · have hie : i = L.length := by omega
    rw [hie, List.take_length, hAx, hBy] at e3
    simp (maxSteps := 1000000) (disch := omega) only [↓sy1, sy2, sy3, readOK, sy5, sy6, Nat.reduceEqDiff, ↓reduceIte, sy7, sy8, sy9, sya, oneOf, syb, syc, Nat.reduceAdd, Nat.reduceMul, syd, sye, syf, syg, syh, reduceCtorEq, F67_L0, e21, e20, e6, e5, e0, e10, Int.ofNat_lt, hlt, decide_false]
    have hg69 : Grow w6 w9 := hg8.trans hg9
    have hr9 := hg69.gheap hr6
    refine R_out (MStep.mk hr4 hy hyn hr9 ⟨G6, e0, e10, e3, h6.grow hg69, (hx5.trans hx6).trans (.grow hg69), hg69.gheap hb6, ho6.1, ho6.2, (Array.getElem?_eq_some_iff.1 hr9).1⟩)
theorem free_spec (h : MapAt G κ μ w m p lq came c P I) (hP : P.length < 525) :
    Calls Tryz.prog 37 #[.pointer (some ⟨m, 0, none⟩)] w (Ret fun v w' => v = .tuple #[.int .i64 (freeN P), .int .i64 (freeN I)] ∧ ∃ G', Ext (fun x => x = μ) G w G' w' ∧ MapAt G' κ μ w' m p lq came c P I) := by
  have hfP := freeN_le P
  have hfI := freeN_le I
  obtain ⟨f1, f2, f3, f4, f5, f6, f7, f8⟩ := h.facts
  apply enter37
  apply R_in
  simp (maxSteps := 1000000) (disch := omega) only [↓sy1, sy2, sy3, readOK, sy5, sy6, Nat.reduceEqDiff, ↓reduceIte, sy7, sy8, sy9, sya, oneOf, syb, syc, Nat.reduceAdd, Nat.reduceMul, syd, sye, syf, syg, syh, reduceCtorEq, F37]
  refine call0 (both_spec h hP) ?_
  rintro _ w1 ⟨rfl, G1, hx1, h1⟩
  simp (maxSteps := 1000000) (disch := omega) only [↓sy1, sy2, sy3, readOK, sy5, sy6, Nat.reduceEqDiff, ↓reduceIte, sy7, sy8, sy9, sya, oneOf, syb, syc, Nat.reduceAdd, Nat.reduceMul, syd, sye, syf, syg, syh, reduceCtorEq]
  have hfl : (Tryz.prog.underlying 106).isSome = true := by kernel_rfl
  refine real_rule (a := freeN P) (b := freeN I) (by simp only [upd_at, Nat.reduceEqDiff, reduceIte, ev_tmp, ev_const, List.map_cons, List.map_nil]) ?_
  simp (maxSteps := 1000000) (disch := omega) only [↓sy1, sy2, sy3, readOK, sy5, sy6, Nat.reduceEqDiff, ↓reduceIte, sy7, sy8, sy9, sya, oneOf, syb, syc, Nat.reduceAdd, Nat.reduceMul, syd, sye, syf, syg, syh, reduceCtorEq]
  refine toint_rule (a := freeN P) hfl underI (by simp only [upd_at, Nat.reduceEqDiff, reduceIte, ev_tmp, ev_const, List.map_cons, List.map_nil]) (by unfold fltTop; omega) ?_
  simp (maxSteps := 1000000) (disch := omega) only [↓sy1, sy2, sy3, readOK, sy5, sy6, Nat.reduceEqDiff, ↓reduceIte, sy7, sy8, sy9, sya, oneOf, syb, syc, Nat.reduceAdd, Nat.reduceMul, syd, sye, syf, syg, syh, reduceCtorEq]
  refine imag_rule (a := freeN P) (b := freeN I) (by simp only [upd_at, Nat.reduceEqDiff, reduceIte, ev_tmp, ev_const, List.map_cons, List.map_nil]) ?_
  simp (maxSteps := 1000000) (disch := omega) only [↓sy1, sy2, sy3, readOK, sy5, sy6, Nat.reduceEqDiff, ↓reduceIte, sy7, sy8, sy9, sya, oneOf, syb, syc, Nat.reduceAdd, Nat.reduceMul, syd, sye, syf, syg, syh, reduceCtorEq]
  refine toint_rule (a := freeN I) hfl underI (by simp only [upd_at, Nat.reduceEqDiff, reduceIte, ev_tmp, ev_const, List.map_cons, List.map_nil]) (by unfold fltTop; omega) ?_
  simp (maxSteps := 1000000) (disch := omega) only [↓sy1, sy2, sy3, readOK, sy5, sy6, Nat.reduceEqDiff, ↓reduceIte, sy7, sy8, sy9, sya, oneOf, syb, syc, Nat.reduceAdd, Nat.reduceMul, syd, sye, syf, syg, syh, reduceCtorEq]
  exact R_out ⟨G1, hx1, h1, h.2⟩
end
end Go.Proofs.YtbnecclognibaaaGreat

/- bytes.Equal, slices.EqualFunc; two disks that are read alike. -/
namespace Go.Proofs.YtbnecclognibaaaGreat
open Go
set_option linter.unusedSimpArgs false
open Go.RowKit (intOf)
def strOf (l : List UInt8) : ByteArray := ⟨l.toArray⟩
theorem strOf_list (l : List UInt8) : (strOf l).toList = l := by rw [ByteArray.toList_eq]; simp [strOf]
theorem strOf_fold : ∀ (l : List UInt8) (r : ByteArray), (l.map fun b => (b.toNat : Int)).foldl (fun (r : ByteArray) (n : Int) => r.push (UInt8.ofNat n.toNat)) r = ⟨r.data ++ l.toArray⟩
  | [], r => by simp
  | b :: l, r => by
    rw [List.map_cons, List.foldl_cons, strOf_fold l]
    simp [ByteArray.push]
section
variable {P : Program} {k : Kont} {e : Env} {w : World} {l : List GOp} {d : Option Nat}
theorem conv_rule {x : Operand} {src dst el ty : TypeId} {v : Value} {b : List UInt8} (hx : ev e x = v) (hv : HasB w v b) (hs : P.underlying src = some (.slice el)) (he : P.underlying el = some (.int .u8)) (hd : P.underlying dst = some .string)
    (h : R (symOps P l k (updO e d (.string (strOf b))) w)) : R (symOps P (⟨d, .hard (H (.convert src dst x) ty), none⟩ :: l) k e w) := by
  have hr : (convert src dst v).run P w = .ok (.string (strOf b)) w := by
    rcases hv with ⟨bb, o, n, c, rfl, h1, h2, h3⟩ | ⟨h1, rfl⟩
    · rw [run_convert_bytes_string w src dst el _ _ _ hs he hd]
      have hn : n = (bs b).length := by omega
      subst hn
      have hl := run_loadCells_list (P := P) w ⟨bb, o, none⟩ (bs b) (fun j u hj => by rw [add_lit]; exact h3 j u hj)
      rw [run_bytesToString w ⟨bb, o, none⟩ _ c (b.map fun x => (x.toNat : Int)) (by rw [hl]; simp [bs, Function.comp_def]), strOf_fold]
      simp [strOf]
    · have hb : b = [] := by simpa [bs] using h1
      subst hb
      rw [run_convert_bytes_string w src dst el _ _ _ hs he hd]
      simp [Conv.bytesToString, Sem.run_pure]; rfl
  exact hard_rule (by simp only [execOp, H, hx, Sem.run_bind, Sem.run_pure, hr, Result.andThen_ok]) h
theorem streq_rule {x y : Operand} {t rt ty : TypeId} {a b : List UInt8} (hx : ev e x = .string (strOf a)) (hy : ev e y = .string (strOf b)) (h : R (symOps P l k (updO e d (.bool (decide (a = b)))) w)) :
    R (symOps P (⟨d, .hard (H (.binOp .eql t x y rt) ty), none⟩ :: l) k e w) := by
  have hr : (binOp .eql t (.string (strOf a)) (.string (strOf b))).run P w = .ok (.bool (decide (a = b))) w := by
    rw [binOp_string_eql, strOf_list, strOf_list, Sem.run_pure]
    congr 2
    by_cases h : a = b <;> simp [h]
  have hgd : eqGuard .eql t x y (.string (strOf a)) (.string (strOf b)) = pure () := rfl
  exact hard_rule (by simp only [execOp, H, hx, hy, hgd, Sem.run_bind, Sem.run_pure, hr, Result.andThen_ok]) h
end
theorem bytesEqual_spec {w : World} {u v : Value} {a b : List UInt8} (ha : HasB w u a) (hb : HasB w v b) :
    Calls Tryz.prog 60 #[u, v] w (Ret fun r w' => r = .bool (decide (a = b)) ∧ w' = w) := by
  have hs : Tryz.prog.underlying 62 = some (.slice 5) := by kernel_rfl
  have he : Tryz.prog.underlying 5 = some (.int .u8) := by kernel_rfl
  have hd : Tryz.prog.underlying 9 = some .string := by kernel_rfl
  apply enter60
  apply R_in
  simp (maxSteps := 600000) (disch := omega) only [F60, ↓sy1, sy2, sy3, readOK, sy5, sy6, Nat.reduceEqDiff, ↓reduceIte, sy7, sy8, sy9, sya, oneOf, syb, syc, Nat.reduceAdd, Nat.reduceMul, syd, sye, syf, syg, syh, reduceCtorEq]
  refine conv_rule (by simp only [upd_at, Nat.reduceEqDiff, reduceIte, ev_tmp, ev_const, List.map_cons, List.map_nil]) ha hs he hd ?_
  simp (maxSteps := 600000) (disch := omega) only [↓sy1, sy2, sy3, readOK, sy5, sy6, Nat.reduceEqDiff, ↓reduceIte, sy7, sy8, sy9, sya, oneOf, syb, syc, Nat.reduceAdd, Nat.reduceMul, syd, sye, syf, syg, syh, reduceCtorEq]
  refine conv_rule (by simp only [upd_at, Nat.reduceEqDiff, reduceIte, ev_tmp, ev_const, List.map_cons, List.map_nil]) hb hs he hd ?_
  simp (maxSteps := 600000) (disch := omega) only [↓sy1, sy2, sy3, readOK, sy5, sy6, Nat.reduceEqDiff, ↓reduceIte, sy7, sy8, sy9, sya, oneOf, syb, syc, Nat.reduceAdd, Nat.reduceMul, syd, sye, syf, syg, syh, reduceCtorEq]
  refine streq_rule (a := a) (b := b) (by simp only [upd_at, Nat.reduceEqDiff, reduceIte, ev_tmp, ev_const, List.map_cons, List.map_nil]) (by simp only [upd_at, Nat.reduceEqDiff, reduceIte, ev_tmp, ev_const, List.map_cons, List.map_nil]) ?_
  simp (maxSteps := 600000) (disch := omega) only [↓sy1, sy2, sy3, readOK, sy5, sy6, Nat.reduceEqDiff, ↓reduceIte, sy7, sy8, sy9, sya, oneOf, syb, syc, Nat.reduceAdd, Nat.reduceMul, syd, sye, syf, syg, syh, reduceCtorEq]
  exact R_out trivial
end Go.Proofs.YtbnecclognibaaaGreat

/- The superblock; how many inodes may be; numbers. -/
namespace Go.Proofs.YtbnecclognibaaaGreat
open Go
set_option linter.unusedSimpArgs false
open Go.RowKit (intOf)
def dunS : ByteArray := ByteArray.mk #[68, 85, 78, 49]
def dun0 : List UInt8 := [68, 85, 78, 49] ++ List.replicate 508 0
def dunV : List Value := [.int .u8 68, .int .u8 85, .int .u8 78, .int .u8 49]
theorem dunV_cells : ((ByteArray.mk #[68, 85, 78, 49] : ByteArray).extract 0 4).data.map (fun b => Value.int .u8 (b.toNat : Int)) = dunV.toArray := by kernel_rfl
theorem dunV_len : (Builtin.lenOf (.string (ByteArray.mk #[68, 85, 78, 49]))) = pure 4 := by rfl
theorem dun_rule {k : Kont} {e : Env} {w : World} {l : List GOp} {d : Option Nat} {x : Operand} {v : Value} {B : Nat} (ho : w.ownsRow B 5 1 v 512 (bs zsec)) (hx : ev e x = v)
    (hh : ∀ w', Keep (fun b => v.ownBlock = some b) w w' → w'.ownsRow B 5 1 v 512 (bs dun0) → R (symOps Tryz.prog l k (updO e d (.int .i64 4)) w')) :
    R (symOps Tryz.prog (⟨d, .hard (H (.call { callee := .builtin .copy, args := #[x, .const (.string (ByteArray.mk #[68, 85, 78, 49]))], argTypes := #[62, 9] }) 3), none⟩ :: l) k e w) := by
  obtain ⟨h0, ⟨_, h2⟩ | ⟨g, cap, cur, rfl, h2, h3, h4, h5, h6, h7⟩⟩ := ho
  · omega
  have hdl : dunV.length = 4 := rfl
  have hst := run_storeCells_at Tryz.prog g 0 5 dunV 0 cur w h3 (by rw [hdl]; omega) (by simp [Value.oneCell', dunV])
  have hrr := setRow_heap w g cur ((List.take (0 + 0) cur.toList ++ dunV ++ List.drop (0 + 0 + dunV.length) cur.toList).toArray) 5 (0, 0) h3
  have hkk : Keep (fun b => b = g) w (w.setRow g ((List.take (0 + 0) cur.toList ++ dunV ++ List.drop (0 + 0 + dunV.length) cur.toList).toArray)) := ⟨rfl, rfl, rfl, by simp, fun k _ hk => setRow_other w g k _ hk⟩
  generalize w.setRow g ((List.take (0 + 0) cur.toList ++ dunV ++ List.drop (0 + 0 + dunV.length) cur.toList).toArray) = w' at hst hrr hkk
  obtain ⟨i, hi, hz, hsz, hby⟩ := elemB.hi
  have hu := elemB.ht
  refine hard_rule (run_builtin (vs := [.slice (some ⟨g, 0, none⟩) 512 cap, .string (ByteArray.mk #[68, 85, 78, 49])]) (by simp [hx, ev_const]) (fun cs => ?_)) (hh w' (hkk.mono (fun b _ hb => by subst hb; rfl)) ⟨h0, .inr ⟨g, cap, _, rfl, h2, hrr, h4, h5, ?_, ?_⟩⟩)
  · have hf : (Builtin.firstCells 1 4 (.string (ByteArray.mk #[68, 85, 78, 49]))).run Tryz.prog w = .ok dunV.toArray w := by rw [Builtin.firstCells, dunV_cells]; rfl
    simp only [List.toArray, builtin] at *
    simp [Builtin.copy_, run_underlying hu, dunV_len, sizeOf, typeInfo, hi, hsz, show Nat.min 4 512 = 4 from rfl, hf, hst, goInt]
  · simp [hdl]; omega
  · have h7' : cur.toList.take 512 = bs zsec := by simpa using h7
    have h8 : (cur.toList.drop 4).take 508 = List.replicate 508 (.int .u8 0) := by
      have h9 := congrArg (List.drop 4) h7'
      rw [List.drop_take, bs_zsec] at h9
      rw [List.drop_replicate] at h9
      exact h9
    have hb : bs dun0 = dunV ++ List.replicate 508 (.int .u8 0) := by
      simp only [dun0, bs, List.map_append, List.map_replicate]; rfl
    rw [hb, ← h8]
    have h10 : List.take 512 dunV = dunV := List.take_of_length_le (by rw [hdl]; omega)
    simp [hdl, List.take_append, h10]
/-- The superblock's bytes, one by one. -/
def supV (pages inodes : Nat) : List UInt8 := super4 pages ++ super4 inodes
def supAt (pages inodes j : Nat) : List UInt8 := [68, 85, 78, 49] ++ (supV pages inodes).take j ++ List.replicate (508 - j) 0
theorem supV_length (a b : Nat) : (supV a b).length = 8 := rfl
theorem supAt_zero (a b : Nat) : supAt a b 0 = dun0 := rfl
theorem supAt_end (a b : Nat) : supAt a b 8 = superB a b := by
  unfold supAt superB
  rw [show (supV a b).take 8 = supV a b from List.take_length (l := supV a b), supV]
  exact congrArg (· ++ List.replicate 500 (0 : UInt8)) (List.append_assoc [68, 85, 78, 49] (super4 a) (super4 b)).symm
theorem supAt_set {a b j : Nat} (h : j < 8) : (supAt a b j).set (4 + j) ((supV a b).getD j 0) = supAt a b (j + 1) := by
  have hl := supV_length a b
  have hg : (supV a b)[j]? = some ((supV a b).getD j 0) := by rw [List.getD_eq_getElem?_getD, List.getElem?_eq_getElem (by omega)]; rfl
  have hlt : ((supV a b).take j).length = j := by rw [List.length_take]; omega
  unfold supAt
  rw [show 508 - j = (508 - (j + 1)) + 1 from by omega, List.replicate_succ, List.take_add_one, hg]
  have hidx : 4 + j - ([68, 85, 78, 49] ++ (supV a b).take j).length = 0 := by rw [List.length_append, hlt]; simp
  rw [List.set_append_right _ _ (by rw [List.length_append, hlt]; simp), hidx, List.set_cons_zero]
  simp only [List.append_assoc, List.cons_append, List.nil_append, Option.toList_some]
theorem shr_n {n s : Nat} (hn : n < 9223372036854775808) (hs : s ≤ 24) : binV .shr (.int .i64 (n : Int)) (.int .i64 (s : Int)) = some (.int .i64 ((n / 2 ^ s : Nat) : Int)) := by
  simp only [binV]
  rw [if_neg (by omega), show min ((s : Int).toNat) IntKind.i64.bits = s from by simp [IntKind.bits]; omega]
  have : ((n : Int).fdiv (2 ^ s)) = ((n / 2 ^ s : Nat) : Int) := by
    rw [show ((2 : Int) ^ s) = ((2 ^ s : Nat) : Int) from by simp, Int.ofNat_fdiv]
  rw [this]
theorem sup_val {a b i k : Nat} (hi : i < 2) (hk : k < 4) : (supV a b).getD (4 * i + k) 0 = UInt8.ofNat ((if i = 0 then a else b) / 2 ^ (24 - 8 * k)) := by
  match i, k, hi, hk with
  | 0, 0, _, _ => rfl
  | 0, 1, _, _ => rfl
  | 0, 2, _, _ => rfl
  | 0, 3, _, _ => exact congrArg UInt8.ofNat (by simp)
  | 1, 0, _, _ => rfl
  | 1, 1, _, _ => rfl
  | 1, 2, _, _ => rfl
  | 1, 3, _, _ => exact congrArg UInt8.ofNat (by simp)
set_option maxHeartbeats 2000000 in
theorem super_spec {w : World} {a b : Nat} (ha : a < 65536) (hb : b < 65536) :
    Calls Tryz.prog 32 #[.int .i64 a, .int .i64 b] w (Ret fun v w' => w'.ownsRow w.heap.size 5 1 v 512 (bs (superB a b)) ∧ Grow w w') := by
  apply enter32
  apply R_in
  simp (maxSteps := 1000000) (disch := omega) only [↓sy1, sy2, sy3, readOK, sy5, sy6, Nat.reduceEqDiff, ↓reduceIte, sy7, sy8, sy9, sya, oneOf, syb, syc, Nat.reduceAdd, Nat.reduceMul, syd, sye, syf, syg, syh, reduceCtorEq, F32]
  refine mkz_rule (fun zv w1 hg1 hz => ?_)
  simp (maxSteps := 1000000) (disch := omega) only [↓sy1, sy2, sy3, readOK, sy5, sy6, Nat.reduceEqDiff, ↓reduceIte, sy7, sy8, sy9, sya, oneOf, syb, syc, Nat.reduceAdd, Nat.reduceMul, syd, sye, syf, syg, syh, reduceCtorEq]
  refine dun_rule hz (by simp only [upd_at, Nat.reduceEqDiff, reduceIte, ev_tmp, ev_const, List.map_cons, List.map_nil]) (fun w2 hk2 ho2 => ?_)
  have hzb : ∀ b, zv.ownBlock = some b → w.heap.size ≤ b := fun b hb => (World.ownsRow.lt hz b hb).1
  have hg2 : Grow w w2 := hg1.then hk2 (fun b hb hh => by have := hzb b hh; omega)
  simp (maxSteps := 1000000) (disch := omega) only [↓sy1, sy2, sy3, readOK, sy5, sy6, Nat.reduceEqDiff, ↓reduceIte, sy7, sy8, sy9, sya, oneOf, syb, syc, Nat.reduceAdd, Nat.reduceMul, syd, sye, syf, syg, syh, reduceCtorEq, fill_gen, fillF_2 (u := .int .i64 (a : Int)) (v := .int .i64 (b : Int)) rfl rfl]
  have hg3 : Grow w2 (w2.alloc (.cells #[.int .i64 a, .int .i64 b] 3)) := (Keep.refl _ _).alloc _
  have hb3 := heap_alloc_new w2 (.cells #[.int .i64 a, .int .i64 b] 3)
  generalize w2.alloc (.cells #[.int .i64 a, .int .i64 b] 3) = w3 at hg3 hb3 ⊢
  have hI := HasI_block2 hb3
  have ho3 := own_grow ho2 hg3
  rw [← supAt_zero a b] at ho3
  have hzne : ∀ b, zv.ownBlock = some b → b ≠ w2.heap.size := fun b hb => by have := (World.ownsRow.lt ho2 b hb).2; omega
  generalize hr : w2.heap.size = r at hb3 hI hzne ⊢
  refine loop_rule (fun e w' => ∃ i : Nat, i ≤ 2 ∧ e 16 = .int .i64 i ∧ e 15 = .int .i64 2 ∧ e 14 = .slice (some ⟨r, 0, none⟩) 2 2 ∧ e 5 = zv ∧ w'.ownsRow w.heap.size 5 1 zv 512 (bs (supAt a b (4 * i))) ∧ HasI w' (.slice (some ⟨r, 0, none⟩) 2 2) [(a : Int), (b : Int)] ∧ Grow w w') (fun e _ => 2 - (intOf (e 16)).toNat)
    ⟨0, by omega, by simp [upd, updO, ev], by simp [upd, updO, ev], by simp [upd, updO, ev], by simp [upd, updO, ev], ho3, hI, hg2.trans hg3⟩ ?_
  rintro e w4 ⟨i, hi, e16, e15, e14, e5, ho4, hI4, hg4⟩
  by_cases hlt : i < 2
  · obtain ⟨x, hx, hc, _⟩ := hI4.getI (i := i) (by simp; omega)
    have hval : [(a : Int), (b : Int)][i] = ((if i = 0 then a else b : Nat) : Int) := by
      match i, hlt with
      | 0, _ => rfl
      | 1, _ => rfl
    rw [hval] at hc
    have hvlt : (if i = 0 then a else b) < 65536 := by split <;> omega
    have hsv : ∀ k, k < 4 → (supV a b).getD (4 * i + k) 0 = UInt8.ofNat ((if i = 0 then a else b) / 2 ^ (24 - 8 * k)) := fun k hk => sup_val hlt hk
    generalize (if i = 0 then a else b) = n at hc hvlt hsv
    simp (maxSteps := 1000000) (disch := omega) only [↓sy1, sy2, sy3, readOK, sy5, sy6, Nat.reduceEqDiff, ↓reduceIte, sy7, sy8, sy9, sya, oneOf, syb, syc, Nat.reduceAdd, Nat.reduceMul, syd, sye, syf, syg, syh, reduceCtorEq, F32_L1, e16, e15, e14, e5, show ((i : Int) < 2) from by omega, decide_true, hx, hc]
    refine loop_rule (fun e w' => ∃ k : Nat, k ≤ 4 ∧ e 21 = .int .i64 k ∧ e 6 = .int .i64 i ∧ e 7 = .int .i64 n ∧ e 16 = .int .i64 i ∧ e 15 = .int .i64 2 ∧ e 14 = .slice (some ⟨r, 0, none⟩) 2 2 ∧ e 5 = zv ∧ w'.ownsRow w.heap.size 5 1 zv 512 (bs (supAt a b (4 * i + k))) ∧ HasI w' (.slice (some ⟨r, 0, none⟩) 2 2) [(a : Int), (b : Int)] ∧ Grow w w') (fun e _ => 4 - (intOf (e 21)).toNat)
      ⟨0, by omega, by simp [upd, updO, ev], by simp [upd, updO, ev], by simp [upd, updO, ev], by simp [upd, updO, ev, e16], by simp [upd, updO, ev, e15], by simp [upd, updO, ev, e14], by simp [upd, updO, ev, e5], ho4, hI4, hg4⟩ ?_
    rintro e w5 ⟨k, hk, e21, e6, e7, e16, e15, e14, e5, ho5, hI5, hg5⟩
    by_cases hk4 : k < 4
    · have hpos : (4 : Int) + 4 * (i : Int) + (k : Int) = ((4 + (4 * i + k) : Nat) : Int) := by omega
      have hsh : (24 : Int) - 8 * (k : Int) = ((24 - 8 * k : Nat) : Int) := by omega
      obtain ⟨y, w6, hy, hst, ho6, hk6, hbk⟩ := own_store ho5 (i := 4 + (4 * i + k)) (by omega) (u := .int .u8 (((supV a b).getD (4 * i + k) 0).toNat : Int)) rfl
      have hset : (bs (supAt a b (4 * i + k))).set (4 + (4 * i + k)) (.int .u8 (((supV a b).getD (4 * i + k) 0).toNat : Int)) = bs (supAt a b (4 * i + k + 1)) := by
        rw [← supAt_set (a := a) (b := b) (j := 4 * i + k) (by omega)]; simp [bs, List.map_set]
      rw [hset] at ho6
      have hbyte : ((n / 2 ^ (24 - 8 * k) : Nat) : Int) % 256 = (((supV a b).getD (4 * i + k) 0).toNat : Int) := by
        rw [hsv k hk4, UInt8.toNat_ofNat']; omega
      simp (maxSteps := 1000000) (disch := omega) only [↓sy1, sy2, sy3, readOK, sy5, sy6, Nat.reduceEqDiff, ↓reduceIte, sy7, sy8, sy9, sya, oneOf, syb, syc, Nat.reduceAdd, Nat.reduceMul, syd, sye, syf, syg, syh, reduceCtorEq, F32_L0, e21, e6, e7, e16, e15, e14, e5, show ((k : Int) < 4) from by omega, decide_true, hpos, hsh, shr_n (n := n) (s := 24 - 8 * k) (by omega) (by omega), hbyte, hy, hst]
      refine R_out ⟨⟨k + 1, by omega, rfl, ho6, hI5.keep hk6 (fun b hb _ hh => hzne b hh (by cases hb; rfl)), hg5.then hk6 (fun b hb hh => by have := hzb b hh; omega)⟩, by simp only [intOf]; omega⟩
    · have hk' : k = 4 := by omega
      subst hk'
      simp (maxSteps := 1000000) (disch := omega) only [↓sy1, sy2, sy3, readOK, sy5, sy6, Nat.reduceEqDiff, ↓reduceIte, sy7, sy8, sy9, sya, oneOf, syb, syc, Nat.reduceAdd, Nat.reduceMul, syd, sye, syf, syg, syh, reduceCtorEq, F32_L0, e21, e6, e7, e16, e15, e14, e5, show ¬ (((4 : Nat) : Int) < 4) from by omega, decide_false]
      exact R_out ⟨⟨i + 1, by omega, rfl, ho5, hI5, hg5⟩, by simp only [intOf]; omega⟩
  · have hi' : i = 2 := by omega
    subst hi'
    rw [show 4 * 2 = 8 from rfl, supAt_end] at ho4
    simp (maxSteps := 1000000) (disch := omega) only [↓sy1, sy2, sy3, readOK, sy5, sy6, Nat.reduceEqDiff, ↓reduceIte, sy7, sy8, sy9, sya, oneOf, syb, syc, Nat.reduceAdd, Nat.reduceMul, syd, sye, syf, syg, syh, reduceCtorEq, F32_L1, e16, e15, e14, e5, show ¬ (((2 : Nat) : Int) < 2) from by omega, decide_false]
    exact R_out ⟨ho4, hg4⟩
end Go.Proofs.YtbnecclognibaaaGreat

/- A map is made; one is opened. -/
namespace Go.Proofs.YtbnecclognibaaaGreat
open Go
set_option linter.unusedSimpArgs false
open Go.RowKit (intOf)
def upto1 (n N : Nat) : List Bool := (List.range N).map fun j => decide (j < n)
theorem upto1_length (n N : Nat) : (upto1 n N).length = N := by simp [upto1]
theorem upto1_get {n N j : Nat} (h : j < N) : (upto1 n N)[j]? = some (decide (j < n)) := by simp [upto1, h]
def orB (b : List UInt8) (i : Nat) : List UInt8 := b.set (i / 8) (UInt8.ofNat ((b.getD (i / 8) 0).toNat ||| 2 ^ (i % 8)))
theorem orB_length (b : List UInt8) (i : Nat) : (orB b i).length = b.length := by simp [orB]
theorem or1_lt {x : UInt8} {j : Nat} (hj : j < 8) : x.toNat ||| 2 ^ j < 2 ^ 8 := Nat.or_lt_two_pow x.toNat_lt (Nat.pow_lt_pow_right (by omega) hj)
theorem bitB_or {b : List UInt8} {i j : Nat} (h : i / 8 < b.length) : bitB (orB b i) j = if j = i then true else bitB b j := by
  unfold bitB orB
  by_cases hd : j / 8 = i / 8
  · rw [hd, List.getD_eq_getElem?_getD, List.getElem?_set_self h, Option.getD_some, UInt8.toNat_ofNat', Nat.mod_eq_of_lt (or1_lt (by omega)), Nat.testBit_or, Nat.testBit_two_pow]
    by_cases hm : j % 8 = i % 8
    · rw [if_pos (by omega), decide_eq_true (by omega), Bool.or_true]
    · rw [if_neg (by omega), decide_eq_false (by omega), Bool.or_false]
  · rw [List.getD_eq_getElem?_getD, List.getElem?_set_ne (Ne.symm hd), ← List.getD_eq_getElem?_getD, if_neg (by omega)]
theorem shl_or {x : UInt8} {i : Nat} (hi : i < 8) : ∃ a, binV .shl (.int .u8 1) (.int .i64 (i : Int)) = some (.int .u8 a) ∧ binV .or (.int .u8 (x.toNat : Int)) (.int .u8 a) = some (.int .u8 ((UInt8.ofNat (x.toNat ||| 2 ^ i)).toNat : Int)) := by
  have h := bit_at (x := x.toNat) x.toNat_lt hi
  simp only [bitChk, Bool.and_eq_true, decide_eq_true_eq] at h
  refine ⟨IntKind.u8.wrap (1 * 2 ^ (min ((i : Int).toNat) 8)), ?_, ?_⟩
  · simp only [binV]; rw [if_neg (by omega)]; rfl
  · simp only [binV]; rw [if_pos trivial]
    refine congrArg (fun z => some (Value.int .u8 z)) (h.1.2.trans ?_)
    rw [UInt8.toNat_ofNat', Nat.mod_eq_of_lt (or1_lt hi)]
/-- The first n bits set. -/
def bitRow : Nat → List UInt8
  | 0 => zsec
  | n + 1 => orB (bitRow n) n
theorem bitRow_length : ∀ n, (bitRow n).length = 512
  | 0 => zsec_length
  | n + 1 => by rw [bitRow, orB_length, bitRow_length n]
theorem bitB_zsec (j : Nat) : bitB zsec j = false := by
  have h0 : (zsec.getD (j / 8) 0) = 0 := by
    rw [List.getD_eq_getElem?_getD, zsec, List.getElem?_replicate]
    split <;> rfl
  unfold bitB
  rw [h0]; exact Nat.zero_testBit _
theorem bitRow_bit : ∀ n j, n ≤ 4096 → bitB (bitRow n) j = decide (j < n)
  | 0, j, _ => bitB_zsec j
  | n + 1, j, h => by
    rw [bitRow, bitB_or (by rw [bitRow_length]; omega), bitRow_bit n j (by omega)]
    by_cases hj : j = n
    · rw [if_pos hj]; exact (decide_eq_true (by omega)).symm
    · rw [if_neg hj]; exact decide_eq_decide.2 (by omega)
def oneRow : List UInt8 := zsec.set 0 1
theorem oneRow_length : oneRow.length = 512 := by rw [oneRow, List.length_set, zsec_length]
theorem oneRow_bit (j : Nat) : bitB oneRow j = decide (j < 1) := by
  by_cases hj : j / 8 = 0
  · unfold bitB oneRow
    rw [hj, List.getD_eq_getElem?_getD, List.getElem?_set_self (by rw [zsec_length]; omega), Option.getD_some]
    have : j = 0 ∨ j = 1 ∨ j = 2 ∨ j = 3 ∨ j = 4 ∨ j = 5 ∨ j = 6 ∨ j = 7 := by omega
    rcases this with rfl | rfl | rfl | rfl | rfl | rfl | rfl | rfl <;> decide
  · have h1 : bitB oneRow j = bitB zsec j := by
      unfold bitB oneRow
      rw [List.getD_eq_getElem?_getD, List.getElem?_set_ne (by omega), ← List.getD_eq_getElem?_getD]
    rw [h1, bitB_zsec]; exact (decide_eq_false (by omega)).symm
theorem bitsOf_row {n N : Nat} (h : n ≤ 4096) : bitsOf (bitRow n) N = upto1 n N := List.map_congr_left fun j _ => bitRow_bit n j h
theorem bitsOf_one (N : Nat) : bitsOf oneRow N = upto1 1 N := List.map_congr_left fun j _ => oneRow_bit j
/-- Pages are written, one behind the other. -/
def wrN (c : Csh) (ls : List (List UInt8)) : Nat → Csh
  | 0 => c
  | n + 1 => (wrN c ls n).write n (ls.getD n [])
section
variable {c : Csh} {ls : List (List UInt8)}
theorem wrN_N (c : Csh) (ls : List (List UInt8)) : ∀ n, (wrN c ls n).N = c.N ∧ (wrN c ls n).D = c.D ∧ (wrN c ls n).size = c.size ∧ (wrN c ls n).most = c.most
  | 0 => ⟨rfl, rfl, rfl, rfl⟩
  | n + 1 => wrN_N c ls n
theorem wrN_page : ∀ n m, (wrN c ls n).page m = if m < n then ls.getD m [] else c.page m
  | 0, m => by rw [if_neg (by omega)]; rfl
  | n + 1, m => by
    rw [wrN, Csh.write_page, wrN_page n m]
    by_cases h : m = n
    · subst h; rw [if_pos rfl, if_pos (by omega)]
    · rw [if_neg h]
      by_cases h2 : m < n
      · rw [if_pos h2, if_pos (by omega)]
      · rw [if_neg h2, if_neg (by omega)]
theorem wrN_dirty : ∀ n, n ≤ c.N → (wrN c ls n).dirty.length ≤ c.dirty.length + n
  | 0, _ => by simp [wrN]
  | n + 1, h => by
    have h1 := wrN_dirty n (by omega)
    rw [wrN, write_dirty (by rw [(wrN_N c ls n).1]; omega)]
    split <;> omega
end
theorem Alc.made {c : Csh} {ls : List (List UInt8)} {k : Nat} (hm : mayA c.N k) (h0 : ls.getD 0 [] = superB c.N k) (h1 : ls.getD 1 [] = oneRow) (h2 : ls.getD 2 [] = bitRow (3 + k / 8)) : Alc (wrN c ls (3 + k / 8)) (upto1 (3 + k / 8) c.N) (upto1 1 k) := by
  have hm' := hm
  unfold mayA at hm'
  have hN := (wrN_N c ls (3 + k / 8)).1
  refine ⟨?_, ?_, ?_, ?_, fun j hj => ?_, ?_⟩
  · rw [wrN_page, if_pos (by omega), h0, hN, upto1_length]
  · rw [wrN_page, if_pos (by omega), h2, hN, bitsOf_row (by omega)]
  · rw [wrN_page, if_pos (by omega), h1, upto1_length, bitsOf_one]
  · rw [hN, upto1_length]; exact hm
  · rw [upto1_length] at hj; rw [upto1_get (by omega), decide_eq_true (by omega)]
  · rw [upto1_get (by omega)]; rfl
theorem may_spec {w : World} {a : Nat} {b : Int} : Calls Tryz.prog 31 #[.int .i64 a, .int .i64 b] w (Ret fun v w' => v = .bool (decide (mayA a b)) ∧ w' = w) := by
  apply enter31
  apply R_in
  by_cases h1 : 8 ≤ b
  · obtain ⟨k, rfl⟩ : ∃ k : Nat, b = k := ⟨b.toNat, by omega⟩
    have hmod : ((k : Int)).tmod 8 = ((k % 8 : Nat) : Int) := rfl
    have hdiv : ((k : Int)).tdiv 8 = ((k / 8 : Nat) : Int) := rfl
    by_cases h2 : (k : Int) ≤ 512
    · by_cases h3 : k % 8 = 0
      · by_cases h4 : a ≤ 4096
        · by_cases h5 : 3 + k / 8 < a
          · simp (maxSteps := 1000000) (disch := omega) only [↓sy1, sy2, sy3, readOK, sy5, sy6, Nat.reduceEqDiff, ↓reduceIte, sy7, sy8, sy9, sya, oneOf, syb, syc, Nat.reduceAdd, Nat.reduceMul, syd, sye, syf, syg, syh, reduceCtorEq, F31, h1, h2, decide_true, hmod, hdiv, show (((k % 8 : Nat) : Int) = 0) from by omega, show ((a : Int) ≤ 4096) from by omega, show ((3 : Int) + ((k / 8 : Nat) : Int) < (a : Int)) from by omega]
            refine R_out ?_
            rw [decide_eq_true (p := mayA a k) (by unfold mayA; omega)]
          · simp (maxSteps := 1000000) (disch := omega) only [↓sy1, sy2, sy3, readOK, sy5, sy6, Nat.reduceEqDiff, ↓reduceIte, sy7, sy8, sy9, sya, oneOf, syb, syc, Nat.reduceAdd, Nat.reduceMul, syd, sye, syf, syg, syh, reduceCtorEq, F31, h1, h2, decide_true, hmod, hdiv, show (((k % 8 : Nat) : Int) = 0) from by omega, show ((a : Int) ≤ 4096) from by omega, show ¬ ((3 : Int) + ((k / 8 : Nat) : Int) < (a : Int)) from by omega, decide_false]
            refine R_out ?_
            rw [decide_eq_false (p := mayA a k) (by unfold mayA; omega)]
        · simp (maxSteps := 1000000) (disch := omega) only [↓sy1, sy2, sy3, readOK, sy5, sy6, Nat.reduceEqDiff, ↓reduceIte, sy7, sy8, sy9, sya, oneOf, syb, syc, Nat.reduceAdd, Nat.reduceMul, syd, sye, syf, syg, syh, reduceCtorEq, F31, h1, h2, decide_true, hmod, hdiv, show (((k % 8 : Nat) : Int) = 0) from by omega, show ¬ ((a : Int) ≤ 4096) from by omega, decide_false]
          refine R_out ?_
          rw [decide_eq_false (p := mayA a k) (by unfold mayA; omega)]
      · simp (maxSteps := 1000000) (disch := omega) only [↓sy1, sy2, sy3, readOK, sy5, sy6, Nat.reduceEqDiff, ↓reduceIte, sy7, sy8, sy9, sya, oneOf, syb, syc, Nat.reduceAdd, Nat.reduceMul, syd, sye, syf, syg, syh, reduceCtorEq, F31, h1, h2, decide_true, hmod, hdiv, show ¬ (((k % 8 : Nat) : Int) = 0) from by omega, decide_false]
        refine R_out ?_
        rw [decide_eq_false (p := mayA a k) (by unfold mayA; omega)]
    · simp (maxSteps := 1000000) (disch := omega) only [↓sy1, sy2, sy3, readOK, sy5, sy6, Nat.reduceEqDiff, ↓reduceIte, sy7, sy8, sy9, sya, oneOf, syb, syc, Nat.reduceAdd, Nat.reduceMul, syd, sye, syf, syg, syh, reduceCtorEq, F31, h1, h2, decide_true, decide_false]
      refine R_out ?_
      rw [decide_eq_false (p := mayA a k) (by unfold mayA; omega)]
  · simp (maxSteps := 1000000) (disch := omega) only [↓sy1, sy2, sy3, readOK, sy5, sy6, Nat.reduceEqDiff, ↓reduceIte, sy7, sy8, sy9, sya, oneOf, syb, syc, Nat.reduceAdd, Nat.reduceMul, syd, sye, syf, syg, syh, reduceCtorEq, F31, h1, decide_false]
    refine R_out ?_
    rw [decide_eq_false (p := mayA a b) (by unfold mayA; omega)]
theorem numbers_spec {w : World} {n : Nat} (hn : n ≤ 100000) : Calls Tryz.prog 34 #[.int .i64 n] w (Ret fun v w' => HasI w' v (zs (List.range n)) ∧ Grow w w') := by
  apply enter34
  apply R_in
  simp (maxSteps := 1000000) (disch := omega) only [↓sy1, sy2, sy3, readOK, sy5, sy6, Nat.reduceEqDiff, ↓reduceIte, sy7, sy8, sy9, sya, oneOf, syb, syc, Nat.reduceAdd, Nat.reduceMul, syd, sye, syf, syg, syh, reduceCtorEq, F34]
  refine loop_rule (fun e w' => ∃ i : Nat, i ≤ n ∧ e 6 = .int .i64 i ∧ e 5 = .int .i64 n ∧ w'.ownsRow w.heap.size 3 1 (e 3) i (ints (zs (List.range i))) ∧ Grow w w') (fun e _ => n - (intOf (e 6)).toNat)
    ⟨0, by omega, by simp [upd, updO, ev], by simp [upd, updO, ev], by simpa [upd, updO, ev, zs, ints] using World.ownsRow_nil w _ _ _, Keep.refl _ _⟩ ?_
  rintro e w1 ⟨i, hi, e6, e5, ho, hg⟩
  by_cases hlt : i < n
  · simp (maxSteps := 1000000) (disch := omega) only [↓sy1, sy2, sy3, readOK, sy5, sy6, Nat.reduceEqDiff, ↓reduceIte, sy7, sy8, sy9, sya, oneOf, syb, syc, Nat.reduceAdd, Nat.reduceMul, syd, sye, syf, syg, syh, reduceCtorEq, F34_L0, e6, e5, Int.ofNat_lt, hlt, decide_true]
    have hga : Grow w1 (w1.alloc (.cells #[.int .i64 (i : Int)] 3)) := (Keep.refl _ _).alloc _
    refine app_own elemI (by simp only [upd_at, Nat.reduceEqDiff, reduceIte, ev_tmp, ev_const, List.map_cons, List.map_nil]) (by simp only [upd_at, Nat.reduceEqDiff, reduceIte, ev_tmp, ev_const, List.map_cons, List.map_nil]) (own_grow ho hga) Has.new1 (m := 1) rfl (by simp [isCell]) (by omega) (by omega) (by have := hga.size; have := hg.size; omega) ?_
    intro v' w2 ho2 hg2
    simp (maxSteps := 1000000) (disch := omega) only [↓sy1, sy2, sy3, readOK, sy5, sy6, Nat.reduceEqDiff, ↓reduceIte, sy7, sy8, sy9, sya, oneOf, syb, syc, Nat.reduceAdd, Nat.reduceMul, syd, sye, syf, syg, syh, reduceCtorEq, e6, e5]
    refine R_out ⟨⟨i + 1, by omega, rfl, ?_, (hg.trans hga).then (Keep.grown hg2) (fun b hb hh => ?_)⟩, by simp only [intOf]; omega⟩
    · have : ints (zs (List.range i)) ++ [.int .i64 (i : Int)] = ints (zs (List.range (i + 1))) := by simp [List.range_succ, ints, zs]
      rw [this] at ho2; exact ho2
    · have := (World.ownsRow.lt ho b hh.symm).1; omega
  · have hie : i = n := by omega
    subst hie
    simp (maxSteps := 1000000) (disch := omega) only [↓sy1, sy2, sy3, readOK, sy5, sy6, Nat.reduceEqDiff, ↓reduceIte, sy7, sy8, sy9, sya, oneOf, syb, syc, Nat.reduceAdd, Nat.reduceMul, syd, sye, syf, syg, syh, reduceCtorEq, F34_L0, e6, e5, Int.ofNat_lt, hlt, decide_false]
    exact R_out ⟨Has.own ho, hg⟩
end Go.Proofs.YtbnecclognibaaaGreat

/- What a head says, in plain words; a head of any bytes is read; a log is opened over any disk. -/
namespace Go.Proofs.YtbnecclognibaaaGreat
open Go
set_option linter.unusedSimpArgs false
open Go.RowKit (intOf)
def twoB (b : List UInt8) (i : Nat) : Nat := (b.getD i 0).toNat * 256 + (b.getD (i + 1) 0).toNat
theorem twoB_lt (b : List UInt8) (i : Nat) : twoB b i < 65536 := by
  have h1 := (b.getD i 0).toNat_lt
  have h2 := (b.getD (i + 1) 0).toNat_lt
  unfold twoB; omega
theorem twoB_zero (b : List UInt8) (k : Nat) : twoB (b.drop k) 0 = twoB b k := by
  simp [twoB, List.getElem?_drop]
theorem twoB_cons (x y : UInt8) (l : List UInt8) : twoB (x :: y :: l) 0 = x.toNat * 256 + y.toNat := rfl
theorem twoB_get {l : List UInt8} (h : 2 ≤ l.length) : l[0].toNat * 256 + l[1].toNat = twoB l 0 := by
  match l, h with
  | x :: y :: l, _ => rfl
def numsOf (b : List UInt8) (n : Nat) : List Nat := (List.range n).map fun i => twoB b (4 + 2 * i)
theorem numsOf_length (b : List UInt8) (n : Nat) : (numsOf b n).length = n := by simp [numsOf]
theorem numsOf_succ (b : List UInt8) (i : Nat) : numsOf b (i + 1) = numsOf b i ++ [twoB b (4 + 2 * i)] := by simp [numsOf, List.range_succ]
theorem numsOf_take (b : List UInt8) {n i : Nat} (h : i ≤ n) : (numsOf b n).take i = numsOf b i := by simp [numsOf, ← List.map_take, List.take_range, Nat.min_eq_left h]
def goodN (pages : Nat) (l : List Nat) : Prop := l.Pairwise (· < ·) ∧ ∀ p ∈ l, p < pages
instance (pages : Nat) (l : List Nat) : Decidable (goodN pages l) := by unfold goodN; infer_instance
def lastI (l : List Nat) : Int := match l.getLast? with | some x => (x : Int) | none => -1
theorem lastI_snoc (l : List Nat) (p : Nat) : lastI (l ++ [p]) = p := by simp [lastI]
theorem goodN_nil (pages : Nat) : goodN pages [] := ⟨List.Pairwise.nil, fun _ h => by simp at h⟩
theorem goodN_take {pages : Nat} {l : List Nat} (h : goodN pages l) (i : Nat) : goodN pages (l.take i) := ⟨h.1.sublist (List.take_sublist ..), fun p hp => h.2 p (List.mem_of_mem_take hp)⟩
theorem goodN_snoc {pages : Nat} {l : List Nat} {p : Nat} : goodN pages (l ++ [p]) ↔ goodN pages l ∧ lastI l < p ∧ p < pages := by
  constructor
  · rintro ⟨h1, h2⟩
    rw [List.pairwise_append] at h1
    refine ⟨⟨h1.1, fun q hq => h2 q (by simp [hq])⟩, ?_, h2 p (by simp)⟩
    unfold lastI
    split
    · rename_i x hx
      have := h1.2.2 x (List.mem_of_getLast? hx) p (by simp); omega
    · omega
  · rintro ⟨⟨h1, h2⟩, h3, h4⟩
    refine ⟨List.pairwise_append.2 ⟨h1, by simp, fun a ha c hc => ?_⟩, fun q hq => ?_⟩
    · simp at hc; subst hc
      obtain ⟨i, hi, rfl⟩ := List.getElem_of_mem ha
      have hne : l ≠ [] := fun h => by simp [h] at hi
      unfold lastI at h3
      rw [List.getLast?_eq_some_getLast hne] at h3
      simp only [List.getLast_eq_getElem] at h3
      by_cases hl : i = l.length - 1
      · subst hl; omega
      · have := List.pairwise_iff_getElem.1 h1 i (l.length - 1) hi (by omega) (by omega); omega
    · rcases List.mem_append.1 hq with hq | hq
      · exact h2 q hq
      · simp at hq; omega
open Classical in
/-- The numbers that a head has; none: it is no head. -/
noncomputable def headOf (cap pages : Nat) (b : List UInt8) : Option (List Nat) :=
  if ∀ x ∈ b, x = 0 then some []
  else if b.getD 0 0 = 0x44 ∧ b.getD 1 0 = 0x4e ∧ twoB b 2 ≤ cap ∧ (∀ x ∈ b.drop (4 + 2 * twoB b 2), x = 0) ∧ goodN pages (numsOf b (twoB b 2)) then some (numsOf b (twoB b 2)) else none
theorem headOf_zsec (cap pages : Nat) : headOf cap pages zsec = some [] := by
  have h : ∀ x ∈ zsec, x = 0 := fun x hx => (List.mem_replicate.1 hx).2
  rw [headOf, if_pos h]
theorem headOf_good {cap pages : Nat} {b : List UInt8} {ns : List Nat} (h : headOf cap pages b = some ns) : goodN pages ns ∧ ns.length ≤ cap := by
  unfold headOf at h
  split at h
  · cases h; exact ⟨goodN_nil _, Nat.zero_le _⟩
  · split at h
    · rename_i hc; cases h; exact ⟨hc.2.2.2.2, by rw [numsOf_length]; exact hc.2.2.1⟩
    · cases h
theorem headOf_headB {cap pages : Nat} {ns : List Nat} (hc : cap ≤ 100) (hl : ns.length ≤ cap) (hp : pages ≤ 65536) (hg : goodN pages ns) : headOf cap pages (headB ns) = some ns := by
  have h2 : twoB (headB ns) 2 = ns.length := by
    obtain ⟨r, hr⟩ := headB_two ns
    rw [← twoB_zero, hr, twoB_cons, hi_lo (by omega)]
  have hn : numsOf (headB ns) ns.length = ns := by
    refine List.ext_getElem (numsOf_length _ _) fun i h1 h2 => ?_
    simp only [numsOf, List.getElem_map, List.getElem_range]
    obtain ⟨r, hr⟩ := headB_at ns h2
    rw [← twoB_zero, hr, twoB_cons, hi_lo (by have := hg.2 _ (List.getElem_mem h2); omega)]
  rw [headOf, if_neg (fun h => absurd (h 0x44 (by simp [headB])) (by decide)), h2, hn, if_pos ⟨rfl, rfl, hl, by rw [headB_tail]; exact fun x hx => (List.mem_replicate.1 hx).2, hg⟩]
theorem u8_68 {b : UInt8} (h : (b.toNat : Int) = 68) : b = 0x44 := UInt8.toNat_inj.1 (by have h2 : b.toNat = 68 := by omega
                                                                                         rw [h2]; rfl)
theorem u8_78 {b : UInt8} (h : (b.toNat : Int) = 78) : b = 0x4e := UInt8.toNat_inj.1 (by have h2 : b.toNat = 78 := by omega
                                                                                         rw [h2]; rfl)
noncomputable def Dsk.head (size : Nat) (D : Dsk) : Option (List Nat) := headOf (min size 100) (D.first.length - size - 1) (D.image.getD 0 [])
theorem Dsk.image0 {D : Dsk} (h : D.Ok) : D.image.getD 0 [] = D.image[0]'(by rw [D.image_length]; exact h.some) := by
  rw [List.getD_eq_getElem?_getD, List.getElem?_eq_getElem]; rfl
/-- What head answers. -/
def HeadRes (B : Nat) (o : Option (List Nat)) (v : Value) (w' : World) : Prop := match o with
  | some ns => ∃ u, v = .tuple #[u, .bool true] ∧ w'.ownsRow B 3 1 u ns.length (ints (zs ns))
  | none => v = .tuple #[.slice none 0 0, .bool false]
set_option maxHeartbeats 1000000 in
theorem headg_spec {G : Gh} {κ : Nat} {w : World} {q size came : Nat} {D : Dsk} (h : LogAt G κ w q size came D) :
    Calls Tryz.prog 57 #[.pointer (some ⟨q, 0, none⟩)] w (Ret fun v w' => HeadRes w.heap.size (D.head size) v w' ∧ Grow w w') := by
  obtain ⟨p, hd, hc⟩ := h.cells
  have hs2 := h.2.2.1
  have hmost := hd.ok.most
  have hb512 : (D.image.getD 0 []).length = 512 := by rw [Dsk.image0 hd.ok]; exact hd.ok.image _ (List.getElem_mem _)
  unfold Dsk.head
  generalize hbb : D.image.getD 0 [] = bb at hb512 ⊢
  rw [Dsk.image0 hd.ok] at hbb
  apply enter57
  apply R_in
  simp (maxSteps := 600000) (disch := omega) only [F57, ↓sy1, sy2, sy3, readOK, sy5, sy6, Nat.reduceEqDiff, ↓reduceIte, sy7, sy8, sy9, sya, oneOf, syb, syc, Nat.reduceAdd, Nat.reduceMul, syd, sye, syf, syg, syh, reduceCtorEq, hc (Keep.refl _ _)]
  refine call0 (read_spec hd (n := 0) (by omega)) ?_
  rintro _ w1 ⟨b, rfl, hb, hg1⟩
  rw [hbb] at hb
  have hB := Has.own hb
  simp (maxSteps := 600000) (disch := omega) only [↓sy1, sy2, sy3, readOK, sy5, sy6, Nat.reduceEqDiff, ↓reduceIte, sy7, sy8, sy9, sya, oneOf, syb, syc, Nat.reduceAdd, Nat.reduceMul, syd, sye, syf, syg, syh, reduceCtorEq]
  refine call0 (zeros_spec hB (by omega)) ?_
  rintro v w2 ⟨⟨hall, rfl⟩ | ⟨hno, rfl⟩, rfl⟩
  · simp (maxSteps := 600000) (disch := omega) only [↓sy1, sy2, sy3, readOK, sy5, sy6, Nat.reduceEqDiff, ↓reduceIte, sy7, sy8, sy9, sya, oneOf, syb, syc, Nat.reduceAdd, Nat.reduceMul, syd, sye, syf, syg, syh, reduceCtorEq]
    refine R_out ?_
    rw [headOf, if_pos hall]
    exact ⟨⟨_, rfl, World.ownsRow_nil _ _ _ _⟩, hg1⟩
  obtain ⟨v2, hv2, hH2⟩ := hB.slcFrom (m := 2) (by rw [bs_length]; omega)
  rw [bs_drop] at hH2
  have hv2' : slcF 1 b (some (.int .i64 2)) none none = some v2 := hv2
  simp (maxSteps := 600000) (disch := omega) only [↓sy1, sy2, sy3, readOK, sy5, sy6, Nat.reduceEqDiff, ↓reduceIte, sy7, sy8, sy9, sya, oneOf, syb, syc, Nat.reduceAdd, Nat.reduceMul, syd, sye, syf, syg, syh, reduceCtorEq, hv2']
  refine call0 (two_spec hH2 (by rw [List.length_drop]; omega)) ?_
  rintro _ w3 ⟨rfl, hg3⟩
  rw [twoB_get (by rw [List.length_drop]; omega), twoB_zero]
  have hB3 := hB.grow hg3
  obtain ⟨a0, ha0, hac0, _⟩ := hB3.getB (i := 0) (by omega)
  obtain ⟨a1, ha1, hac1, _⟩ := hB3.getB (i := 1) (by omega)
  have hb0 : bb[0] = bb.getD 0 0 := by rw [List.getD_eq_getElem?_getD, List.getElem?_eq_getElem]; rfl
  have hb1 : bb[1] = bb.getD 1 0 := by rw [List.getD_eq_getElem?_getD, List.getElem?_eq_getElem]; rfl
  rw [hb0] at hac0
  rw [hb1] at hac1
  have ha0' : iaF 1 b (.int .i64 0) = some (.pointer (some a0)) := ha0
  have ha1' : iaF 1 b (.int .i64 1) = some (.pointer (some a1)) := ha1
  have hbad : ∀ {w' : World}, Grow w w' → ¬ (bb.getD 0 0 = 0x44 ∧ bb.getD 1 0 = 0x4e ∧ twoB bb 2 ≤ min size 100 ∧ (∀ x ∈ bb.drop (4 + 2 * twoB bb 2), x = 0) ∧ goodN (D.first.length - size - 1) (numsOf bb (twoB bb 2))) →
      R (HeadRes w.heap.size (headOf (min size 100) (D.first.length - size - 1) bb) (.tuple #[.slice none 0 0, .bool false]) w' ∧ Grow w w') := fun {w'} hg hn => by
    refine R_out ?_
    rw [headOf, if_neg hno, if_neg hn]
    exact ⟨rfl, hg⟩
  have hn2 := twoB_lt bb 2
  generalize hn : twoB bb 2 = n at hn2 hbad ⊢
  by_cases c0 : bb.getD 0 0 = 0x44
  rotate_left
  · have c0' : ¬ (((bb.getD 0 0).toNat : Int) = 68) := fun hc => c0 (u8_68 hc)
    simp (maxSteps := 600000) (disch := omega) only [↓sy1, sy2, sy3, readOK, sy5, sy6, Nat.reduceEqDiff, ↓reduceIte, sy7, sy8, sy9, sya, oneOf, syb, syc, Nat.reduceAdd, Nat.reduceMul, syd, sye, syf, syg, syh, reduceCtorEq, ha0', hac0, c0', decide_false]
    exact hbad (hg1.trans hg3) (fun hc => c0 hc.1)
  have c0' : (((bb.getD 0 0).toNat : Int) = 68) = True := by rw [c0]; simp
  by_cases c1 : bb.getD 1 0 = 0x4e
  rotate_left
  · have c1' : ¬ (((bb.getD 1 0).toNat : Int) = 78) := fun hc => c1 (u8_78 hc)
    simp (maxSteps := 600000) (disch := omega) only [↓sy1, sy2, sy3, readOK, sy5, sy6, Nat.reduceEqDiff, ↓reduceIte, sy7, sy8, sy9, sya, oneOf, syb, syc, Nat.reduceAdd, Nat.reduceMul, syd, sye, syf, syg, syh, reduceCtorEq, ha0', hac0, c0', ha1', hac1, c1', decide_false, decide_true]
    exact hbad (hg1.trans hg3) (fun hc => c1 hc.2.1)
  have c1' : (((bb.getD 1 0).toNat : Int) = 78) = True := by rw [c1]; simp
  simp (maxSteps := 600000) (disch := omega) only [↓sy1, sy2, sy3, readOK, sy5, sy6, Nat.reduceEqDiff, ↓reduceIte, sy7, sy8, sy9, sya, oneOf, syb, syc, Nat.reduceAdd, Nat.reduceMul, syd, sye, syf, syg, syh, reduceCtorEq, ha0', hac0, c0', ha1', hac1, c1', decide_true]
  refine call0 (capacity_spec (h.grow (hg1.trans hg3))) ?_
  rintro _ w4 ⟨rfl, rfl⟩
  by_cases c2 : n ≤ min size 100
  rotate_left
  · have c2' : ((min size 100 : Nat) : Int) < (n : Int) := by omega
    simp (maxSteps := 600000) (disch := omega) only [↓sy1, sy2, sy3, readOK, sy5, sy6, Nat.reduceEqDiff, ↓reduceIte, sy7, sy8, sy9, sya, oneOf, syb, syc, Nat.reduceAdd, Nat.reduceMul, syd, sye, syf, syg, syh, reduceCtorEq, c2', decide_true]
    exact hbad (hg1.trans hg3) (fun hc => c2 hc.2.2.1)
  obtain ⟨v5, hv5, hH5⟩ := hB3.slcFrom (m := 4 + 2 * n) (by rw [bs_length]; omega)
  rw [bs_drop] at hH5
  have hcast5 : (4 : Int) + 2 * (n : Int) = ((4 + 2 * n : Nat) : Int) := by omega
  have hng : ¬ (((min size 100 : Nat) : Int) < (n : Int)) := by omega
  simp (maxSteps := 600000) (disch := omega) only [↓sy1, sy2, sy3, readOK, sy5, sy6, Nat.reduceEqDiff, ↓reduceIte, sy7, sy8, sy9, sya, oneOf, syb, syc, Nat.reduceAdd, Nat.reduceMul, syd, sye, syf, syg, syh, reduceCtorEq, hng, decide_false, hcast5, hv5]
  refine call0 (zeros_spec hH5 (by simp; omega)) ?_
  rintro v w5 ⟨⟨c3, rfl⟩ | ⟨c3, rfl⟩, rfl⟩
  rotate_left
  · simp (maxSteps := 600000) (disch := omega) only [↓sy1, sy2, sy3, readOK, sy5, sy6, Nat.reduceEqDiff, ↓reduceIte, sy7, sy8, sy9, sya, oneOf, syb, syc, Nat.reduceAdd, Nat.reduceMul, syd, sye, syf, syg, syh, reduceCtorEq]
    exact hbad (hg1.trans hg3) (fun hc => c3 hc.2.2.2.1)
  simp (maxSteps := 600000) (disch := omega) only [↓sy1, sy2, sy3, readOK, sy5, sy6, Nat.reduceEqDiff, ↓reduceIte, sy7, sy8, sy9, sya, oneOf, syb, syc, Nat.reduceAdd, Nat.reduceMul, syd, sye, syf, syg, syh, reduceCtorEq]
  have hb5 := own_grow hb hg3
  have hg15 := hg1.trans hg3
  refine loop_rule (fun e w' => ∃ (i : Nat) (out : Value), i ≤ n ∧ e 51 = .int .i64 i ∧ e 50 = .int .i64 n ∧ e 4 = b ∧ e 0 = .pointer (some ⟨q, 0, none⟩) ∧ e 7 = .int .i64 (lastI (numsOf bb i)) ∧ e 8 = out ∧ goodN (D.first.length - size - 1) (numsOf bb i) ∧
      w'.ownsRow w.heap.size 3 1 out i (ints (zs (numsOf bb i))) ∧ w'.ownsRow w.heap.size 5 1 b 512 (bs bb) ∧ Grow w w') (fun e _ => n - (intOf (e 51)).toNat)
    ⟨0, .slice none 0 0, by omega, by simp [upd, updO, ev], by simp [upd, updO, ev], by simp [upd, updO, ev], by simp [upd, updO, ev], by simp [upd, updO, ev, lastI, numsOf], by simp [upd, updO, ev], goodN_nil _, World.ownsRow_nil w5 _ _ _, by rw [← hb512]; rw [← hb512] at hb5; exact hb5, hg15⟩ ?_
  rintro e w6 ⟨i, out, hi', e51, e50, e4, e0, e7, e8, hgd, hown, hb6, hg6⟩
  have hB6 := Has.own hb6
  by_cases hlt : i < n
  · obtain ⟨v7, hv7, hH7⟩ := hB6.slcFrom (m := 4 + 2 * i) (by rw [bs_length]; omega)
    rw [bs_drop] at hH7
    have hcast7 : (4 : Int) + 2 * (i : Int) = ((4 + 2 * i : Nat) : Int) := by omega
    have hsn := goodN_snoc (pages := D.first.length - size - 1) (l := numsOf bb i) (p := twoB bb (4 + 2 * i))
    rw [← numsOf_succ] at hsn
    have hup : goodN (D.first.length - size - 1) (numsOf bb n) → goodN (D.first.length - size - 1) (numsOf bb (i + 1)) := fun hg => by
      rw [← numsOf_take bb (show i + 1 ≤ n from hlt)]; exact goodN_take hg _
    have h7 := twoB_lt bb (4 + 2 * i)
    have hsucc := numsOf_succ bb i
    simp (maxSteps := 600000) (disch := omega) only [F57_L0, ↓sy1, sy2, sy3, readOK, sy5, sy6, Nat.reduceEqDiff, ↓reduceIte, sy7, sy8, sy9, sya, oneOf, syb, syc, Nat.reduceAdd, Nat.reduceMul, syd, sye, syf, syg, syh, reduceCtorEq, e51, e50, e4, e0, e7, e8, Int.ofNat_lt, hlt, decide_true, hcast7, hv7]
    refine call0 (two_spec hH7 (by rw [List.length_drop]; omega)) ?_
    rintro _ w7 ⟨rfl, hg7⟩
    rw [twoB_get (by rw [List.length_drop]; omega), twoB_zero]
    generalize twoB bb (4 + 2 * i) = p7 at h7 hsucc hsn ⊢
    by_cases hlast : (p7 : Int) ≤ lastI (numsOf bb i)
    · simp (maxSteps := 600000) (disch := omega) only [↓sy1, sy2, sy3, readOK, sy5, sy6, Nat.reduceEqDiff, ↓reduceIte, sy7, sy8, sy9, sya, oneOf, syb, syc, Nat.reduceAdd, Nat.reduceMul, syd, sye, syf, syg, syh, reduceCtorEq, e51, e50, e4, e0, e7, e8, hlast, decide_true]
      exact hbad (hg6.trans hg7) (fun hc => by have := (hsn.1 (hup hc.2.2.2.2)).2.1; omega)
    simp (maxSteps := 600000) (disch := omega) only [↓sy1, sy2, sy3, readOK, sy5, sy6, Nat.reduceEqDiff, ↓reduceIte, sy7, sy8, sy9, sya, oneOf, syb, syc, Nat.reduceAdd, Nat.reduceMul, syd, sye, syf, syg, syh, reduceCtorEq, e51, e50, e4, e0, e7, e8, hlast, decide_false]
    refine call0 (pages_spec (h.grow (hg6.trans hg7))) ?_
    rintro _ w8 ⟨rfl, hg8⟩
    by_cases hpp : ((D.first.length - size - 1 : Nat) : Int) ≤ (p7 : Int)
    · simp (maxSteps := 600000) (disch := omega) only [↓sy1, sy2, sy3, readOK, sy5, sy6, Nat.reduceEqDiff, ↓reduceIte, sy7, sy8, sy9, sya, oneOf, syb, syc, Nat.reduceAdd, Nat.reduceMul, syd, sye, syf, syg, syh, reduceCtorEq, e51, e50, e4, e0, e7, e8, hpp, decide_true]
      exact hbad ((hg6.trans hg7).trans hg8) (fun hc => by have := (hsn.1 (hup hc.2.2.2.2)).2.2; omega)
    simp (maxSteps := 600000) (disch := omega) only [↓sy1, sy2, sy3, readOK, sy5, sy6, Nat.reduceEqDiff, ↓reduceIte, sy7, sy8, sy9, sya, oneOf, syb, syc, Nat.reduceAdd, Nat.reduceMul, syd, sye, syf, syg, syh, reduceCtorEq, e51, e50, e4, e0, e7, e8, hpp, decide_false]
    have hown8 := own_grow hown (hg7.trans hg8)
    have hga : Grow w8 (w8.alloc (.cells #[.int .i64 (p7 : Int)] 3)) := (Keep.refl _ _).alloc _
    refine app_own elemI (by simp only [upd_at, Nat.reduceEqDiff, reduceIte, ev_tmp, ev_const, List.map_cons, List.map_nil, e8]) (by simp only [upd_at, Nat.reduceEqDiff, reduceIte, ev_tmp, ev_const, List.map_cons, List.map_nil]) (own_grow hown8 hga) Has.new1 (m := 1) rfl (by simp [isCell]) (by omega) (by omega) (by have := ((hg6.trans hg7).trans hg8).size; simp; omega) ?_
    intro out' w9 ho9 hg9
    simp (maxSteps := 600000) (disch := omega) only [↓sy1, sy2, sy3, readOK, sy5, sy6, Nat.reduceEqDiff, ↓reduceIte, sy7, sy8, sy9, sya, oneOf, syb, syc, Nat.reduceAdd, Nat.reduceMul, syd, sye, syf, syg, syh, reduceCtorEq, e51, e50, e4, e0]
    have hgw : Grow w w9 := (((hg6.trans hg7).trans hg8).trans hga).then (Keep.grown hg9) (fun bb hbb hs => by
      obtain ⟨hbl, _⟩ := World.ownsRow.lt hown8 bb hs.symm; omega)
    have hb8 := own_grow hb6 (hg7.trans hg8)
    have hk9 := (Keep.refl (fun bb => some bb = out.ownBlock) w8).trans (((Keep.refl _ _).alloc (.cells #[.int .i64 (p7 : Int)] 3)).trans (Keep.grown hg9))
    have hb9 := own_keep hb8 hk9 (fun bb hbb hs => own_ne hown8 hb8 (by decide) hs.symm hbb)
    refine R_out ⟨⟨i + 1, out', by omega, rfl, ?_, rfl, hsn.2 ⟨hgd, by omega, by omega⟩, ?_, hb9, hgw⟩, ?_⟩
    · rw [hsucc, lastI_snoc]
    · have hts : ints (zs (numsOf bb (i + 1))) = ints (zs (numsOf bb i)) ++ [.int .i64 (p7 : Int)] := by
        rw [hsucc, zs, List.map_append, ints, List.map_append]; rfl
      rw [hts]; exact ho9
    · simp only [intOf]; omega
  · have hie : i = n := by omega
    subst hie
    simp (maxSteps := 600000) (disch := omega) only [F57_L0, ↓sy1, sy2, sy3, readOK, sy5, sy6, Nat.reduceEqDiff, ↓reduceIte, sy7, sy8, sy9, sya, oneOf, syb, syc, Nat.reduceAdd, Nat.reduceMul, syd, sye, syf, syg, syh, reduceCtorEq, e51, e50, e4, e0, e7, e8, Int.ofNat_lt, hlt, decide_false]
    refine R_out ?_
    rw [headOf, if_neg hno, hn, if_pos ⟨c0, c1, c2, c3, hgd⟩]
    rw [← numsOf_length bb i] at hown
    exact ⟨⟨out, rfl, by simpa [numsOf_length] using hown⟩, hg6⟩
end Go.Proofs.YtbnecclognibaaaGreat

/- A log is opened over any disk. -/
namespace Go.Proofs.YtbnecclognibaaaGreat
open Go
set_option linter.unusedSimpArgs false
open Go.RowKit (intOf)
/-- The copies of a head's pages. -/
def pairsOf (D : Dsk) (ns : List Nat) : List (Nat × List UInt8) := ns.zipIdx.map fun p => (p.1, D.image.getD (1 + p.2) [])
theorem pairsOf_length (D : Dsk) (ns : List Nat) : (pairsOf D ns).length = ns.length := by simp [pairsOf]
theorem pairsOf_get (D : Dsk) (ns : List Nat) {i : Nat} (h : i < (pairsOf D ns).length) : (pairsOf D ns)[i] = (ns[i]'(by rw [pairsOf_length] at h; exact h), D.image.getD (1 + i) []) := by
  simp [pairsOf]
theorem pairsOf_fst (D : Dsk) (ns : List Nat) : (pairsOf D ns).map (·.1) = ns := by
  refine List.ext_getElem (by simp [pairsOf]) fun i h1 h2 => ?_
  rw [List.getElem_map, pairsOf_get]
/-- The disk of a log that is opened, and how many pages came; none: it is broken. -/
noncomputable def opened (size : Nat) (D : Dsk) : Option (Dsk × Nat) := (D.head size).map fun ns => (if ns = [] then D else homed size D (pairsOf D ns), ns.length)
theorem opened_none {size : Nat} {D : Dsk} (h : D.head size = none) : opened size D = none := by simp [opened, h]
theorem opened_nil {size : Nat} {D : Dsk} (h : D.head size = some []) : opened size D = some (D, 0) := by simp [opened, h]
theorem opened_some {size : Nat} {D : Dsk} {ns : List Nat} (h : D.head size = some ns) (hn : ns ≠ []) : opened size D = some (homed size D (pairsOf D ns), ns.length) := by simp [opened, h, hn]
theorem pairsOf_ok {size : Nat} {D : Dsk} {ns : List Nat} (hok : D.Ok) (h : D.head size = some ns) (h2 : size + 2 ≤ D.first.length) :
    (pairsOf D ns).length ≤ size ∧ (∀ p ∈ pairsOf D ns, p.2.length = 512 ∧ size + 1 + p.1 < D.first.length) ∧ ∀ i (h : i < (pairsOf D ns).length), D.image[1 + i]? = some (pairsOf D ns)[i].2 := by
  obtain ⟨⟨hr, hp⟩, hl⟩ := headOf_good h
  have hlen := pairsOf_length D ns
  have himg : ∀ i, i < ns.length → D.image[1 + i]? = some (D.image.getD (1 + i) []) := fun i hi => by
    have : 1 + i < D.image.length := by rw [D.image_length]; omega
    rw [List.getD_eq_getElem?_getD, List.getElem?_eq_getElem this]; rfl
  refine ⟨by omega, fun p hpm => ?_, fun i hi => ?_⟩
  · obtain ⟨i, hi, rfl⟩ := List.getElem_of_mem hpm
    rw [pairsOf_get]
    rw [hlen] at hi
    have h3 := hp ns[i] (List.getElem_mem hi)
    have h4 := List.mem_of_getElem? (himg i hi)
    exact ⟨hok.image _ h4, by simp only; omega⟩
  · rw [pairsOf_get]
    exact himg i (by omega)
/-- What Open answers. -/
def OpenRes (G : Gh) (κ' : Nat) (w : World) (size : Nat) (o : Option (Dsk × Nat)) (v : Value) (w' : World) : Prop := match o with
  | some (E, came) => ∃ q G', v = .tuple #[.pointer (some ⟨q, 0, none⟩), .int .i64 0] ∧ w.heap.size ≤ q ∧ LogAt G' κ' w' q size came E ∧ Ext (fun c => c = κ') G w G' w'
  | none => v = .tuple #[.pointer none, .int .i64 9] ∧ Grow w w'
set_option maxHeartbeats 1000000 in
theorem openg_spec {G : Gh} {κ : Nat} {w : World} {p size : Nat} {D : Dsk} (κ' : Nat) (hκ : κ' ≠ 0) (h : DiskAt G κ w p D) (h1 : 1 ≤ size) (h2 : size + 2 ≤ D.first.length) (ho : D.ops.length < 700000) :
    Calls Tryz.prog 24 #[.pointer (some ⟨p, 0, none⟩), .int .i64 size] w (Ret fun v w' => OpenRes G κ' w size (opened size D) v w') := by
  have hmost := h.ok.most
  have hok := h.ok
  apply enter24
  apply R_in
  simp (maxSteps := 600000) (disch := omega) only [F24, ↓sy1, sy2, sy3, readOK, sy5, sy6, Nat.reduceEqDiff, ↓reduceIte, sy7, sy8, sy9, sya, oneOf, syb, syc, Nat.reduceAdd, Nat.reduceMul, syd, sye, syf, syg, syh, reduceCtorEq, show ¬ ((size : Int) < 1) from by omega, decide_false]
  refine call0 (sectors_spec h) ?_
  rintro _ w0 ⟨rfl, rfl⟩
  simp (maxSteps := 600000) (disch := omega) only [↓sy1, sy2, sy3, readOK, sy5, sy6, Nat.reduceEqDiff, ↓reduceIte, sy7, sy8, sy9, sya, oneOf, syb, syc, Nat.reduceAdd, Nat.reduceMul, syd, sye, syf, syg, syh, reduceCtorEq, show ¬ ((D.first.length : Int) - 2 < (size : Int)) from by omega, decide_false]
  refine call0 (fork_spec κ' h) ?_
  rintro _ w1 ⟨p', G1, rfl, hp1, hd1, hx1⟩
  have hcp : isCell (.pointer (some ⟨p', 0, none⟩)) = true := rfl
  have hg2 : Grow w1 (w1.alloc (.cells #[.pointer (some ⟨p', 0, none⟩), .int .i64 size, .int .i64 0] 90)) := (Keep.refl _ _).alloc _
  have hb2 := heap_alloc_new w1 (.cells #[.pointer (some ⟨p', 0, none⟩), .int .i64 size, .int .i64 0] 90)
  generalize hw2 : w1.alloc (.cells #[.pointer (some ⟨p', 0, none⟩), .int .i64 size, .int .i64 0] 90) = w2 at hg2 hb2
  simp (maxSteps := 600000) (disch := omega) only [↓sy1, sy2, sy3, readOK, sy5, sy6, Nat.reduceEqDiff, ↓reduceIte, sy7, sy8, sy9, sya, oneOf, syb, syc, Nat.reduceAdd, Nat.reduceMul, syd, sye, syf, syg, syh, reduceCtorEq, oneF_cell hcp, fill_gen, fillF_log (a := .pointer none) (b := .int .i64 0) (c := .int .i64 0) hcp (show isCell (.int .i64 (size : Int)) = true from rfl), agg3_cells hcp (show isCell (.int .i64 (size : Int)) = true from rfl) (show isCell (.int .i64 0) = true from rfl), hw2]
  have hq1 : w0.heap.size ≤ w1.heap.size := hx1.size
  have hx2 : Ext0 G1 w1 (G1.new w1.heap.size) w2 := .newB hg2
  have hno : ∀ b, w1.heap.size ≤ b → (G1.new w1.heap.size).own b = 0 ∧ (G1.new w1.heap.size).fix b = 0 := fun b hb => ⟨Gh.new_own hb, by simp [Gh.upto, Nat.not_lt.2 hb]⟩
  have hd2 := hd1.ext hx2 id
  have hlog : LogAt (G1.new w1.heap.size) κ' w2 w1.heap.size size 0 D := ⟨hκ, h1, h2, (hno _ (Nat.le_refl _)).1, p', hb2, hd2⟩
  refine call0 (headg_spec hlog) ?_
  rintro v w3 ⟨hv, hg3⟩
  have hg13 := hg2.trans hg3
  have hx13 : Ext0 G w0 (G1.new w1.heap.size) w3 := hx1.trans (.newB hg13)
  cases hh : D.head size with
  | none =>
    rw [hh] at hv
    obtain rfl := hv
    rw [opened_none hh]
    simp (maxSteps := 600000) (disch := omega) only [↓sy1, sy2, sy3, readOK, sy5, sy6, Nat.reduceEqDiff, ↓reduceIte, sy7, sy8, sy9, sya, oneOf, syb, syc, Nat.reduceAdd, Nat.reduceMul, syd, sye, syf, syg, syh, reduceCtorEq]
    exact R_out ⟨rfl, hx13.growG⟩
  | some ns =>
    rw [hh] at hv
    obtain ⟨u, rfl, hu⟩ := hv
    obtain ⟨k1, k2, k3⟩ := pairsOf_ok hok hh h2
    rw [pairsOf_length] at k1
    have hlu : ∀ w3, lenF w3 0 u = some (.int .i64 ns.length) := fun w3 => by rw [(Has.own hu).lenI]; simp
    have hb3 := hg3.gheap hb2
    obtain ⟨w4, hst, hb4, hk4⟩ := cell_store hb3 (i := 2) (by simp) (u := .int .i64 ns.length) rfl
    have hb4' : w4.heap[w1.heap.size]? = some (.cells #[.pointer (some ⟨p', 0, none⟩), .int .i64 size, .int .i64 ns.length] 90 (0, 0)) := by simpa using hb4
    have hc4 : w4.cell? ⟨w1.heap.size, 2, none⟩ = some (.int .i64 ns.length) := by rw [cell_block hb4']; rfl
    have hg14 : Grow w1 w4 := hg13.then hk4 (fun b hb h => by omega)
    have hx4 : Ext (fun c => c = 0) (G1.new w1.heap.size) w3 (G1.new w1.heap.size) w4 := .on0 hk4 (hno _ (Nat.le_refl _)).1 (hno _ (Nat.le_refl _)).2
    have hd4 := (hd2.grow hg3).ext hx4 hκ
    have hlog4 : LogAt (G1.new w1.heap.size) κ' w4 w1.heap.size size ns.length D := ⟨hκ, h1, h2, (hno _ (Nat.le_refl _)).1, p', hb4', hd4⟩
    have hxw : Ext0 G w0 (G1.new w1.heap.size) w4 := hx1.trans (.newB hg14)
    by_cases hne : ns = []
    · subst hne
      rw [opened_nil hh]
      have hlu0 : ∀ w3, lenF w3 0 u = some (.int .i64 0) := hlu
      have hst0 : stF w3 (.pointer (some ⟨w1.heap.size, 2, none⟩)) (.int .i64 0) = some (undef, w4) := hst
      have hc40 : w4.cell? ⟨w1.heap.size, 2, none⟩ = some (.int .i64 0) := hc4
      simp (maxSteps := 600000) (disch := omega) only [↓sy1, sy2, sy3, readOK, sy5, sy6, Nat.reduceEqDiff, ↓reduceIte, sy7, sy8, sy9, sya, oneOf, syb, syc, Nat.reduceAdd, Nat.reduceMul, syd, sye, syf, syg, syh, reduceCtorEq, hlu0, hst0, hc40, show ¬ ((0 : Int) < 0) from by omega, decide_false]
      exact R_out ⟨w1.heap.size, G1.new w1.heap.size, rfl, hq1, hlog4, hxw.mono (fun _ h => h.elim)⟩
    · rw [opened_some hh hne]
      have hpos : 0 < ns.length := List.length_pos_iff.2 hne
      simp (maxSteps := 600000) (disch := omega) only [↓sy1, sy2, sy3, readOK, sy5, sy6, Nat.reduceEqDiff, ↓reduceIte, sy7, sy8, sy9, sya, oneOf, syb, syc, Nat.reduceAdd, Nat.reduceMul, syd, sye, syf, syg, syh, reduceCtorEq, hlu, hst, hc4, show ((0 : Int) < (ns.length : Int)) from by omega, decide_true]
      have hug : HasI w4 u (zs ns) := (Has.own hu).keep hk4 (fun b hb _ hbq => by
        have hbl := (World.ownsRow.lt hu b hb).1
        have := (Array.getElem?_eq_some_iff.1 hb2).1
        omega)
      have hheld : Held (G1.new w1.heap.size) κ' w4 u (ints (zs ((pairsOf D ns).map (·.1)))) := by
        rw [pairsOf_fst]
        refine ⟨hug, fun b hb _ => ?_⟩
        obtain ⟨hbb, hbl⟩ := World.ownsRow.lt hu b hb
        exact ⟨Nat.lt_of_lt_of_le hbl hk4.size, by rw [(hno b (Nat.le_trans hg2.size hbb)).1]; exact fun h => hκ h.symm⟩
      refine call0 (home_spec hlog4 hheld (by rw [pairsOf_length]; exact k1) k2 k3 (by rw [pairsOf_length]; omega)) ?_
      rintro _ w5 ⟨G5, hlog5, hx5⟩
      simp (maxSteps := 600000) (disch := omega) only [↓sy1, sy2, sy3, readOK, sy5, sy6, Nat.reduceEqDiff, ↓reduceIte, sy7, sy8, sy9, sya, oneOf, syb, syc, Nat.reduceAdd, Nat.reduceMul, syd, sye, syf, syg, syh, reduceCtorEq]
      exact R_out ⟨w1.heap.size, G5, rfl, hq1, hlog5, (hxw.mono (fun _ h => h.elim)).trans hx5⟩
end Go.Proofs.YtbnecclognibaaaGreat

/- What a crash leaves of a log's disk, in plain words: behind it all pages are as ahead of the group, or as behind it. -/
namespace Go.Proofs.YtbnecclognibaaaGreat
open Go
abbrev Img := List (List UInt8)
/-- What an image tells when a log is opened over it. -/
def Tells (size : Nat) (img P : Img) : Prop := ∃ ns, headOf (min size 100) (img.length - size - 1) (img.getD 0 []) = some ns ∧ P.length = img.length - size - 1 ∧
  (∀ i (h : i < ns.length), P[ns[i]]? = img[1 + i]?) ∧ ∀ s, s < P.length → s ∉ ns → P[s]? = img[size + 1 + s]?
/-- An image, some writes done. -/
def After (W : List DOp) (s img : Img) : Prop := img.length = s.length ∧ ∀ i : Nat, img[i]? = s[i]? ∨ ∃ b, DOp.wr i b ∈ W ∧ img[i]? = some b
theorem After.mono {W W' : List DOp} {s img : Img} (h : After W s img) (hs : ∀ o ∈ W, o ∈ W') : After W' s img :=
  ⟨h.1, fun i => (h.2 i).imp id (fun ⟨b, h1, h2⟩ => ⟨b, hs _ h1, h2⟩)⟩
theorem After.none {W : List DOp} {s img : Img} (h : After W s img) {i : Nat} (hi : ∀ b, DOp.wr i b ∉ W) : img[i]? = s[i]? := by
  rcases h.2 i with h | ⟨b, h1, _⟩
  · exact h
  · exact absurd h1 (hi b)
theorem image_after : ∀ (W : List DOp) (D : Dsk), After W D.image (adds D W).image
  | [], D => ⟨rfl, fun i => .inl rfl⟩
  | o :: W, D => by
    obtain ⟨h1, h2⟩ := image_after W (D.add o)
    rw [adds_cons]
    cases o with
    | fl =>
      rw [Dsk.image_fl] at h1 h2
      exact ⟨h1, fun i => (h2 i).imp id (fun ⟨b, h3, h4⟩ => ⟨b, by simp [h3], h4⟩)⟩
    | wr n b =>
      rw [Dsk.image_wr] at h1 h2
      refine ⟨by rw [h1, List.length_set], fun i => ?_⟩
      rcases h2 i with h3 | ⟨c, h3, h4⟩
      · by_cases hin : n = i
        · subst hin
          by_cases hl : n < D.image.length
          · exact .inr ⟨b, by simp, by rw [h3, List.getElem?_set_self hl]⟩
          · left; rw [h3, List.getElem?_eq_none (by rw [List.length_set]; omega), List.getElem?_eq_none (by omega)]
        · left; rw [h3, List.getElem?_set_ne hin]
      · exact .inr ⟨c, by simp [h3], h4⟩
theorem crash_any {D : Dsk} {ks : List Int} (hok : D.Ok) (hk : D.may ks) (i : Nat) : (D.crash (ks.map Int.toNat)).image[i]? = D.safe[i]? ∨ ∃ b ∈ D.wait i, (D.crash (ks.map Int.toNat)).image[i]? = some b := by
  rw [D.crash_image]
  by_cases hi : ∃ j, ∃ (h : j < D.waiting.length) (_ : j < ks.length), D.waiting[j] = i
  · obtain ⟨j, h1, h2, rfl⟩ := hi
    have hw := (Dsk.mem_waiting hok).1 (List.getElem_mem h1)
    have h3 := crashed_at D.wait D.waiting (ks.map Int.toNat) D.safe j h1 (by simpa using h2) D.waiting_nodup (by rw [D.safe_length]; exact hok.waits hw)
    obtain ⟨h4, h5⟩ := hk.2 j h2 h1
    rw [h3, List.getElem_map]
    by_cases h0 : ks[j].toNat = 0
    · rw [if_pos h0]; exact .inl rfl
    · rw [if_neg h0]
      have hlt : ks[j].toNat - 1 < (D.wait D.waiting[j]).length := by omega
      right
      exact ⟨_, List.getElem_mem hlt, by rw [List.getElem?_eq_getElem hlt]; rfl⟩
  · left
    exact crashed_other _ _ _ _ _ (fun j h1 h2 he => absurd ⟨j, h1, by simpa using h2, he⟩ hi)
def Writes (W : List DOp) : Prop := ∀ o ∈ W, ∃ n b, o = DOp.wr n b
theorem writes_st : ∀ (W : List DOp) (D : Dsk), Writes W → (adds D W).safe = D.safe ∧ ∀ i b, b ∈ (adds D W).wait i → b ∈ D.wait i ∨ DOp.wr i b ∈ W
  | [], D, _ => ⟨rfl, fun i b h => .inl h⟩
  | o :: W, D, hW => by
    obtain ⟨n, c, rfl⟩ := hW o (by simp)
    obtain ⟨h1, h2⟩ := writes_st W (D.add (.wr n c)) (fun o ho => hW o (by simp [ho]))
    rw [adds_cons]
    refine ⟨h1.trans (D.safe_wr n c), fun i b hb => ?_⟩
    rcases h2 i b hb with h | h
    · rw [D.wait_wr] at h
      by_cases hi : i = n
      · subst hi
        simp only [if_true, List.mem_append, List.mem_singleton] at h
        rcases h with h | rfl
        · exact .inl h
        · exact .inr (by simp)
      · simp only [if_neg hi] at h; exact .inl h
    · exact .inr (by simp [h])
theorem Flat.image {D : Dsk} (h : Flat D) : D.image = D.safe := by
  unfold Dsk.image; rw [h]
  exact flushed_none _
theorem flat_fl (D : Dsk) : Flat (D.add .fl) := D.wait_fl
theorem crash_after {D : Dsk} {W : List DOp} {ks : List Int} (hf : Flat D) (hW : Writes W) (hok : (adds D W).Ok) (hk : (adds D W).may ks) : After W D.image ((adds D W).crash (ks.map Int.toNat)).image := by
  obtain ⟨h1, h2⟩ := writes_st W D hW
  refine ⟨by rw [Dsk.crash_length, adds_first, D.image_length], fun i => ?_⟩
  rcases crash_any hok hk i with h | ⟨b, hb, h⟩
  · left; rw [h, h1, hf.image]
  · right
    rcases h2 i b hb with h3 | h3
    · rw [hf] at h3; simp at h3
    · exact ⟨b, h3, h⟩
theorem adds_eq (D : Dsk) (l : List DOp) : adds D l = ⟨D.first, D.ops ++ l⟩ := by
  have h1 := adds_first D l
  have h2 := adds_ops D l
  generalize adds D l = E at h1 h2
  cases E; simp only at h1 h2; subst h1; subst h2; rfl
theorem adds_cut (D : Dsk) (l : List DOp) (j : Nat) : (adds D l).cut (D.ops.length + j) = adds D (l.take j) := by
  rw [adds_eq, adds_eq, Dsk.cut]
  simp [List.take_append, List.take_of_length_le]
theorem adds_cut_le (D : Dsk) (l : List DOp) {k : Nat} (h : k ≤ D.ops.length) : (adds D l).cut k = D.cut k := by
  rw [adds_eq, Dsk.cut, Dsk.cut]
  simp [List.take_append, Nat.sub_eq_zero_of_le h]
/-- Where a list of operations is cut. -/
theorem take_fl (A rest : List DOp) (j : Nat) : (j ≤ A.length ∧ (A ++ .fl :: rest).take j = A.take j) ∨ ∃ i, j = A.length + 1 + i ∧ (A ++ .fl :: rest).take j = A ++ .fl :: rest.take i := by
  by_cases h : j ≤ A.length
  · exact .inl ⟨h, by rw [List.take_append_of_le_length h]⟩
  · right
    refine ⟨j - A.length - 1, by omega, ?_⟩
    rw [List.take_append, List.take_of_length_le (by omega), show j - A.length = (j - A.length - 1) + 1 from by omega, List.take_succ_cons]
    simp
theorem tells_get {size : Nat} {img : Img} {i : Nat} (h : i < img.length) : img[i]? = some (img.getD i []) := by
  rw [List.getD_eq_getElem?_getD, List.getElem?_eq_getElem h]; rfl
theorem getD_of {img img' : Img} {i : Nat} (h : img[i]? = img'[i]?) : img.getD i [] = img'.getD i [] := by
  rw [List.getD_eq_getElem?_getD, List.getD_eq_getElem?_getD, h]
section home
variable {size : Nat} {D : Dsk} {ns : List Nat} {P : Img}
theorem home_writes (ps : List (Nat × List UInt8)) : Writes (homeOps size ps) := fun o ho => by
  obtain ⟨p, _, rfl⟩ := List.mem_map.1 ho; exact ⟨_, _, rfl⟩
theorem home_mem {ps : List (Nat × List UInt8)} {i : Nat} {b : List UInt8} (h : DOp.wr i b ∈ homeOps size ps) : ∃ n ∈ ps.map (·.1), i = size + 1 + n := by
  obtain ⟨p, hp, he⟩ := List.mem_map.1 h
  cases he; exact ⟨p.1, List.mem_map.2 ⟨p, hp, rfl⟩, rfl⟩
/-- What is told, of a head that names pages. -/
def Told (size : Nat) (img : Img) (ns : List Nat) (P : Img) : Prop := headOf (min size 100) (img.length - size - 1) (img.getD 0 []) = some ns ∧ P.length = img.length - size - 1 ∧
  (∀ i (h : i < ns.length), P[ns[i]]? = img[1 + i]?) ∧ ∀ s, s < P.length → s ∉ ns → P[s]? = img[size + 1 + s]?
theorem Told.tells {img : Img} (h : Told size img ns P) : Tells size img P := ⟨ns, h⟩
theorem Told.len {img : Img} (h : Told size img ns P) : ns.length ≤ size ∧ ns.length ≤ 100 := by
  have := (headOf_good h.1).2; omega
theorem told_after {img : Img} (h : Told size D.image ns P) (ha : After (homeOps size (pairsOf D ns)) D.image img) : Told size img ns P := by
  have hl := h.len
  obtain ⟨h1, h2, h3, h4⟩ := h
  have h0 : img[0]? = D.image[0]? := ha.none (fun b hb => by
    obtain ⟨n, _, hn⟩ := home_mem hb; omega)
  refine ⟨by rw [ha.1, getD_of h0]; exact h1, by rw [ha.1]; exact h2, fun i hi => ?_, fun s hs hsn => ?_⟩
  · rw [h3 i hi]
    exact (ha.none (fun b hb => by obtain ⟨n, _, hn⟩ := home_mem hb; omega)).symm
  · rw [h4 s hs hsn]
    exact (ha.none (fun b hb => by
      obtain ⟨n, hm, hn⟩ := home_mem hb
      rw [pairsOf_fst] at hm
      exact hsn (by rw [show s = n from by omega]; exact hm))).symm
theorem home_full (h : Told size D.image ns P) (hsz : size + 2 ≤ D.first.length) {s : Nat} (hs : s < P.length) : (adds D (homeOps size (pairsOf D ns))).image[size + 1 + s]? = P[s]? := by
  have hl := h.len
  obtain ⟨h1, h2, h3, h4⟩ := h
  obtain ⟨hr, hp⟩ := (headOf_good h1).1
  rw [D.image_length] at h2 hp
  by_cases hm : s ∈ ns
  · obtain ⟨i, hi, rfl⟩ := List.getElem_of_mem hm
    have hq : (ns[i], D.image.getD (1 + i) []) ∈ pairsOf D ns := by
      rw [← pairsOf_get D ns (i := i) (by rw [pairsOf_length]; exact hi)]; exact List.getElem_mem _
    rw [image_home size _ D (by rw [pairsOf_fst]; exact nodup_lt hr) (fun p hp' => ?_) _ hq, h3 i hi]
    · exact (tells_get (size := 0) (by rw [D.image_length]; omega)).symm
    · have : p.1 ∈ ns := by rw [← pairsOf_fst D ns]; exact List.mem_map.2 ⟨p, hp', rfl⟩
      have := hp _ this; omega
  · rw [image_home_other size _ _ D (fun p hp' he => hm ?_)]
    · exact (h4 s hs hm).symm
    · have : p.1 ∈ ns := by rw [← pairsOf_fst D ns]; exact List.mem_map.2 ⟨p, hp', rfl⟩
      rw [show s = p.1 from by omega]; exact this
theorem headB_nil {cap pages : Nat} (hc : cap ≤ 100) (hp : pages ≤ 65536) : headOf cap pages (headB []) = some [] := headOf_headB hc (Nat.zero_le _) hp (goodN_nil _)
theorem tells_empty {img : Img} (h : Told size D.image ns P) (hok : D.Ok) (hsz : size + 2 ≤ D.first.length) (ha : After [.wr 0 (headB [])] (adds D (homeOps size (pairsOf D ns))).image img) : Tells size img P := by
  have him := image_after (homeOps size (pairsOf D ns)) D
  rcases ha.2 0 with h0 | ⟨b, hb, h0⟩
  · have heq : img = (adds D (homeOps size (pairsOf D ns))).image := List.ext_getElem? fun i => by
      by_cases hi : i = 0
      · subst hi; exact h0
      · exact ha.none (fun b hb => by simp only [List.mem_singleton, DOp.wr.injEq] at hb; exact hi hb.1)
    rw [heq]
    exact (told_after h him).tells
  · simp only [List.mem_singleton, DOp.wr.injEq, true_and] at hb
    subst hb
    have hlen : img.length = D.first.length := by rw [ha.1, Dsk.image_length, adds_first]
    have hP := h.2.1
    rw [D.image_length] at hP
    have hmost := hok.most
    refine ⟨[], by rw [List.getD_eq_getElem?_getD, h0]; exact headB_nil (by omega) (by omega), by rw [hlen]; exact hP, fun i hi => by simp at hi, fun s hs _ => ?_⟩
    rw [← home_full h hsz hs]
    exact (ha.none (fun b hb => by simp only [List.mem_singleton, DOp.wr.injEq] at hb; omega)).symm
/-- What brings pages home. -/
def homeT (size : Nat) (ps : List (Nat × List UInt8)) : List DOp := homeOps size ps ++ [.fl, .wr 0 (headB []), .fl]
theorem homed_adds (size : Nat) (D : Dsk) (ps : List (Nat × List UInt8)) : homed size D ps = adds D (homeT size ps) := by
  rw [homeT, adds_append]; rfl
theorem After.eq {s img : Img} (h : After [] s img) : img = s := List.ext_getElem? fun i => h.none (fun b hb => by simp at hb)
theorem crash_home (hf : Flat D) (h : Told size D.image ns P) (hok : D.Ok) (hsz : size + 2 ≤ D.first.length) (j : Nat) (ks : List Int) (hokj : (adds D ((homeT size (pairsOf D ns)).take j)).Ok) (hk : (adds D ((homeT size (pairsOf D ns)).take j)).may ks) :
    Tells size ((adds D ((homeT size (pairsOf D ns)).take j)).crash (ks.map Int.toNat)).image P := by
  have hw1 : Writes [.wr 0 (headB [])] := fun o ho => ⟨_, _, List.mem_singleton.1 ho⟩
  rcases take_fl (homeOps size (pairsOf D ns)) [.wr 0 (headB []), .fl] j with ⟨hj, ht⟩ | ⟨i, hj, ht⟩
  · rw [show homeT size (pairsOf D ns) = homeOps size (pairsOf D ns) ++ .fl :: [.wr 0 (headB []), .fl] from rfl] at hokj hk ⊢
    rw [ht] at hokj hk ⊢
    exact (told_after h ((crash_after hf (fun o ho => home_writes _ o (List.mem_of_mem_take ho)) hokj hk).mono (fun o ho => List.mem_of_mem_take ho))).tells
  · rw [show homeT size (pairsOf D ns) = homeOps size (pairsOf D ns) ++ .fl :: [.wr 0 (headB []), .fl] from rfl] at hokj hk ⊢
    rw [ht, adds_append, adds_cons] at hokj hk ⊢
    have hf1 : Flat ((adds D (homeOps size (pairsOf D ns))).add .fl) := flat_fl _
    have hi1 : ((adds D (homeOps size (pairsOf D ns))).add .fl).image = (adds D (homeOps size (pairsOf D ns))).image := Dsk.image_fl _
    match i, hokj, hk with
    | 0, hokj, hk =>
      have := crash_after (W := []) hf1 (fun o ho => by simp at ho) hokj hk
      have he := this.eq
      rw [List.take_zero, he, hi1]
      exact (told_after h (image_after _ D)).tells
    | 1, hokj, hk =>
      have := crash_after (W := [.wr 0 (headB [])]) hf1 hw1 hokj hk
      rw [hi1] at this
      exact tells_empty h hok hsz this
    | i + 2, hokj, hk =>
      have ht2 : ([.wr 0 (headB []), .fl] : List DOp).take (i + 2) = [.wr 0 (headB []), .fl] := List.take_of_length_le (by simp)
      rw [ht2] at hokj hk ⊢
      rw [adds_cons, adds_cons, adds_nil] at hokj hk ⊢
      have := crash_after (W := []) (flat_fl (((adds D (homeOps size (pairsOf D ns))).add .fl).add (.wr 0 (headB [])))) (fun o ho => by simp at ho) hokj hk
      have he := this.eq
      rw [adds_nil] at he
      rw [he, Dsk.image_fl]
      refine tells_empty h hok hsz ?_
      have := image_after [.wr 0 (headB [])] ((adds D (homeOps size (pairsOf D ns))).add .fl)
      rw [hi1] at this
      exact this
end home
theorem copy_writes : ∀ (ps : List (Nat × List UInt8)) (k : Nat), Writes (copyOps k ps)
  | [], _ => fun o ho => by simp [copyOps] at ho
  | p :: ps, k => fun o ho => by
    rw [copyOps] at ho
    rcases List.mem_cons.1 ho with rfl | ho
    · exact ⟨_, _, rfl⟩
    · exact copy_writes ps (k + 1) o ho
theorem copy_mem : ∀ (ps : List (Nat × List UInt8)) (k : Nat) {i : Nat} {b : List UInt8}, DOp.wr i b ∈ copyOps k ps → 1 + k ≤ i ∧ i < 1 + k + ps.length
  | [], _, _, _, h => by simp [copyOps] at h
  | p :: ps, k, i, b, h => by
    rw [copyOps] at h
    rcases List.mem_cons.1 h with h | h
    · cases h; simp
    · have := copy_mem ps (k + 1) h; simp; omega
/-- The pages. -/
def pg (size : Nat) (D : Dsk) : Img := D.image.drop (size + 1)
theorem pg_length (size : Nat) (D : Dsk) : (pg size D).length = D.first.length - size - 1 := by simp [pg, D.image_length]; omega
theorem pg_get (size : Nat) (D : Dsk) (s : Nat) : (pg size D)[s]? = D.image[size + 1 + s]? := by rw [pg, List.getElem?_drop]
theorem calm_head {D : Dsk} (h : Calm D) {cap pages : Nat} (hc : cap ≤ 100) (hp : pages ≤ 65536) : headOf cap pages (D.image.getD 0 []) = some [] := by
  rw [List.getD_eq_getElem?_getD]
  rcases h with h | h <;> rw [h]
  · exact headOf_zsec _ _
  · exact headB_nil hc hp
theorem calm_tells {size : Nat} {D : Dsk} {img : Img} (h : Calm D) (hok : D.Ok) (hl : img.length = D.image.length) (h0 : img[0]? = D.image[0]?) (hp : ∀ s, img[size + 1 + s]? = D.image[size + 1 + s]?) : Tells size img (pg size D) := by
  have hmost := hok.most
  have hil := D.image_length
  refine ⟨[], by rw [getD_of h0]; exact calm_head h (by omega) (by omega), by rw [pg_length, hl, hil], fun i hi => by simp at hi, fun s _ _ => by rw [pg_get, hp]⟩
section group
variable {size : Nat} {D : Dsk} {ps : List (Nat × List UInt8)}
/-- A group that may be. -/
structure GroupOk (size : Nat) (D : Dsk) (ps : List (Nat × List UInt8)) : Prop where
  rise : (ps.map (·.1)).Pairwise (· < ·)
  lt : ∀ p ∈ ps, p.1 < D.first.length - size - 1
  len : ps.length ≤ min size 100
  b512 : ∀ p ∈ ps, p.2.length = 512
def headT (ps : List (Nat × List UInt8)) : List DOp := copyOps 0 ps ++ [.fl, .wr 0 (headB (ps.map (·.1))), .fl]
theorem groupOps_parts (size : Nat) (ps : List (Nat × List UInt8)) : groupOps size ps = headT ps ++ homeT size ps := by simp [groupOps, headT, homeT]
theorem told_head {img : Img} (hg : GroupOk size D ps) (hok : D.Ok) (hsz : size + 2 ≤ D.first.length) (hl : img.length = D.first.length) (h0 : img[0]? = some (headB (ps.map (·.1)))) (hi : ∀ i, i ≠ 0 → img[i]? = (adds D (copyOps 0 ps)).image[i]?) : Told size img (ps.map (·.1)) (pg size (grouped size D ps)) := by
  have hmost := hok.most
  have hlen := hg.len
  refine ⟨?_, by rw [pg_length, grouped_first, hl], fun i hi' => ?_, fun s hs hsn => ?_⟩
  · rw [List.getD_eq_getElem?_getD, h0]
    exact headOf_headB (by omega) (by simpa using hlen) (by omega) ⟨hg.rise, fun n hn => by obtain ⟨p, hp, rfl⟩ := List.mem_map.1 hn; rw [hl]; exact hg.lt p hp⟩
  · have hi2 : i < ps.length := by simpa using hi'
    rw [hi (1 + i) (by omega), List.getElem_map, pg_get]
    have h1 := grouped_page (size := size) (D := D) (ps := ps) (nodup_lt hg.rise) (fun p hp => by have := hg.lt p hp; omega) (List.getElem_mem hi2)
    have h2 := image_copied ps 0 D i hi2 (by omega)
    rw [show 1 + 0 + i = 1 + i from by omega] at h2
    rw [h1, h2]
  · rw [pg_get, hi (size + 1 + s) (by omega), grouped_other (by omega) (by omega) (fun p hp he => hsn (List.mem_map.2 ⟨p, hp, by omega⟩)), image_copy _ ps 0 D (by omega)]
theorem crash_group (hg : GroupOk size D ps) (hf : Flat D) (hc : Calm D) (hok : D.Ok) (hsz : size + 2 ≤ D.first.length) (j : Nat) (ks : List Int) (hokj : (adds D ((groupOps size ps).take j)).Ok) (hk : (adds D ((groupOps size ps).take j)).may ks) :
    (Tells size ((adds D ((groupOps size ps).take j)).crash (ks.map Int.toNat)).image (pg size D) ∧ j < (groupOps size ps).length) ∨ (Tells size ((adds D ((groupOps size ps).take j)).crash (ks.map Int.toNat)).image (pg size (grouped size D ps)) ∧ j ≠ 0) := by
  have hgl := groupOps_length size ps
  have hlen := hg.len
  have hw1 : Writes [.wr 0 (headB (ps.map (·.1)))] := fun o ho => ⟨_, _, List.mem_singleton.1 ho⟩
  have hform : groupOps size ps = copyOps 0 ps ++ .fl :: (.wr 0 (headB (ps.map (·.1))) :: .fl :: homeT size ps) := by simp [groupOps, homeT]
  have hahead : ∀ {img : Img}, After (copyOps 0 ps) D.image img → Tells size img (pg size D) := fun {img} ha =>
    calm_tells hc hok ha.1 (ha.none (fun b hb => by have := copy_mem _ _ hb; omega)) (fun s => ha.none (fun b hb => by have := copy_mem _ _ hb; omega))
  have hf1 : Flat ((adds D (copyOps 0 ps)).add .fl) := flat_fl _
  have hi1 : ((adds D (copyOps 0 ps)).add .fl).image = (adds D (copyOps 0 ps)).image := Dsk.image_fl _
  have hlen1 : (adds D (copyOps 0 ps)).image.length = D.first.length := by rw [Dsk.image_length, adds_first]
  rw [hgl]
  rw [hform] at hokj hk ⊢
  rcases take_fl (copyOps 0 ps) (.wr 0 (headB (ps.map (·.1))) :: .fl :: homeT size ps) j with ⟨hj, ht⟩ | ⟨i, hj, ht⟩
  · rw [copyOps_length] at hj
    rw [ht] at hokj hk ⊢
    exact .inl ⟨hahead ((crash_after hf (fun o ho => copy_writes ps 0 o (List.mem_of_mem_take ho)) hokj hk).mono (fun o ho => List.mem_of_mem_take ho)), by omega⟩
  · rw [copyOps_length] at hj
    rw [ht, adds_append, adds_cons] at hokj hk ⊢
    match i, hj, hokj, hk with
    | 0, hj, hokj, hk =>
      have he := (crash_after (W := []) hf1 (fun o ho => by simp at ho) hokj hk).eq
      left
      rw [List.take_zero, he, hi1]
      exact ⟨hahead (image_after _ D), by omega⟩
    | 1, hj, hokj, hk =>
      have ht1 : (DOp.wr 0 (headB (ps.map (·.1))) :: DOp.fl :: homeT size ps).take 1 = [.wr 0 (headB (ps.map (·.1)))] := rfl
      rw [ht1] at hokj hk ⊢
      have ha := crash_after (D := (adds D (copyOps 0 ps)).add .fl) (W := [.wr 0 (headB (ps.map (·.1)))]) (ks := ks) hf1 hw1 (by exact hokj) (by exact hk)
      rw [hi1] at ha
      have hno : ∀ i, i ≠ 0 → _ := fun i hi => ha.none (i := i) (fun b hb => by simp only [List.mem_singleton, DOp.wr.injEq] at hb; exact hi hb.1)
      rcases ha.2 0 with h0 | ⟨b, hb, h0⟩
      · left
        refine ⟨?_, by omega⟩
        have heq : ((adds ((adds D (copyOps 0 ps)).add .fl) [.wr 0 (headB (ps.map (·.1)))]).crash (ks.map Int.toNat)).image = (adds D (copyOps 0 ps)).image := List.ext_getElem? fun i => by
          by_cases hi : i = 0
          · subst hi; exact h0
          · exact hno i hi
        rw [heq]
        exact hahead (image_after _ D)
      · right
        simp only [List.mem_singleton, DOp.wr.injEq, true_and] at hb
        subst hb
        exact ⟨(told_head hg hok hsz (by rw [ha.1]; exact hlen1) h0 hno).tells, by omega⟩
    | i + 2, hj, hokj, hk =>
      right
      refine ⟨?_, by omega⟩
      rw [List.take_succ_cons, List.take_succ_cons, adds_cons, adds_cons] at hokj hk ⊢
      have hf2 : Flat ((((adds D (copyOps 0 ps)).add .fl).add (.wr 0 (headB (ps.map (·.1))))).add .fl) := flat_fl _
      have hi2 : ((((adds D (copyOps 0 ps)).add .fl).add (.wr 0 (headB (ps.map (·.1))))).add .fl).image = (adds D (copyOps 0 ps)).image.set 0 (headB (ps.map (·.1))) := by rw [Dsk.image_fl, Dsk.image_wr, hi1]
      have hfst : ((((adds D (copyOps 0 ps)).add .fl).add (.wr 0 (headB (ps.map (·.1))))).add .fl).first = D.first := adds_first D (copyOps 0 ps)
      have hok2 : ((((adds D (copyOps 0 ps)).add .fl).add (.wr 0 (headB (ps.map (·.1))))).add .fl).Ok := by
        refine ⟨fun b hb => hok.rows b (by rw [← hfst]; exact hb), fun n b hm => ?_, by rw [hfst]; exact hok.some, by rw [hfst]; exact hok.most⟩
        have := hokj.ops n b (by rw [adds_ops]; exact List.mem_append_left _ hm)
        rw [adds_first] at this; exact this
      have htold : Told size ((((adds D (copyOps 0 ps)).add .fl).add (.wr 0 (headB (ps.map (·.1))))).add .fl).image (ps.map (·.1)) (pg size (grouped size D ps)) := by
        rw [hi2]
        exact told_head hg hok hsz (by rw [List.length_set]; exact hlen1) (List.getElem?_set_self (by rw [hlen1]; omega)) (fun i hi => List.getElem?_set_ne (fun h => hi h.symm))
      have hpairs : pairsOf ((((adds D (copyOps 0 ps)).add .fl).add (.wr 0 (headB (ps.map (·.1))))).add .fl) (ps.map (·.1)) = ps := by
        refine List.ext_getElem (by rw [pairsOf_length, List.length_map]) fun i h1 h2 => ?_
        rw [pairsOf_get, hi2, List.getD_eq_getElem?_getD, List.getElem?_set_ne (by omega)]
        have := image_copied ps 0 D i h2 (by omega)
        rw [show 1 + 0 + i = 1 + i from by omega] at this
        rw [this, List.getElem_map]; rfl
      have hsz2 : size + 2 ≤ ((((adds D (copyOps 0 ps)).add .fl).add (.wr 0 (headB (ps.map (·.1))))).add .fl).first.length := by rw [hfst]; exact hsz
      have := crash_home hf2 htold hok2 hsz2 i ks (by rw [hpairs]; exact hokj) (by rw [hpairs]; exact hk)
      rw [hpairs] at this
      exact this
end group
/-- Behind an opening. -/
theorem tells_opened {size : Nat} {D : Dsk} {P : Img} (hok : D.Ok) (hsz : size + 2 ≤ D.first.length) (h : Tells size D.image P) :
    ∃ ns E, D.head size = some ns ∧ Told size D.image ns P ∧ opened size D = some (E, ns.length) ∧ E = (if ns = [] then D else adds D (homeT size (pairsOf D ns))) ∧ lpages size E = P.take 100 := by
  obtain ⟨ns, ht⟩ := h
  have hP := ht.2.1
  have hh : D.head size = some ns := by
    unfold Dsk.head; rw [← D.image_length]; exact ht.1
  by_cases hn : ns = []
  · subst hn
    refine ⟨[], D, hh, ht, opened_nil hh, by rw [if_pos rfl], ?_⟩
    rw [lpages]
    congr 1
    refine List.ext_getElem? fun s => ?_
    rw [List.getElem?_drop]
    by_cases hs : s < P.length
    · exact (ht.2.2.2 s hs (by simp)).symm
    · rw [List.getElem?_eq_none (by omega), List.getElem?_eq_none (by omega)]
  · refine ⟨ns, _, hh, ht, opened_some hh hn, by rw [if_neg hn, homed_adds], ?_⟩
    rw [lpages]
    congr 1
    have himg : (homed size D (pairsOf D ns)).image = (adds D (homeOps size (pairsOf D ns))).image.set 0 (headB []) := by rw [homed, Dsk.image_fl, Dsk.image_wr, Dsk.image_fl]
    rw [himg]
    refine List.ext_getElem? fun s => ?_
    rw [List.getElem?_drop, List.getElem?_set_ne (by omega)]
    by_cases hs : s < P.length
    · exact home_full ht hsz hs
    · rw [List.getElem?_eq_none (by rw [Dsk.image_length, adds_first]; rw [D.image_length] at hP; omega), List.getElem?_eq_none (by omega)]
end Go.Proofs.YtbnecclognibaaaGreat

/- What a crash keeps; a disk that is cut, and crashed. -/
namespace Go.Proofs.YtbnecclognibaaaGreat
open Go
set_option linter.unusedSimpArgs false
open Go.RowKit (intOf)
/-- A row of rows in nobody's blocks. -/
def Zero (G : Gh) (w : World) (v : Value) (xs : List Value) : Prop := Has 1 w v xs ∧ ∀ b, v.ownBlock = some b → xs ≠ [] → b < w.heap.size ∧ G.own b = 0
theorem Zero.ext {K : Nat → Prop} {G G' : Gh} {w w' : World} {v : Value} {xs : List Value} (h : Zero G w v xs) (hx : Ext K G w G' w') (h0 : ¬ K 0) : Zero G' w' v xs := by
  refine ⟨h.1.keep hx.keep (fun b hb hne => by rw [(h.2 b hb hne).2]; exact h0), fun b hb hne => ?_⟩
  obtain ⟨h1, h2⟩ := h.2 b hb hne
  exact ⟨Nat.lt_of_lt_of_le h1 hx.size, by rw [hx.own b h1]; exact h2⟩
theorem Zero.own {B k : Nat} {t : TypeId} {w w' : World} {G : Gh} {v : Value} {xs : List Value} (h : w'.ownsRow B t 1 v k xs) (hB : w.heap.size ≤ B) : Zero (G.new w.heap.size) w' v xs :=
  ⟨Has.own h, fun b hb _ => ⟨(World.ownsRow.lt h b hb).2, Gh.new_own (Nat.le_trans hB (World.ownsRow.lt h b hb).1)⟩⟩
def ZRows (G : Gh) (w : World) : List Value → List (List UInt8) → Prop
  | [], [] => True
  | v :: vs, l :: ls => Zero G w v (bs l) ∧ ZRows G w vs ls
  | _, _ => False
theorem ZRows.ext {K : Nat → Prop} {G G' : Gh} {w w' : World} (hx : Ext K G w G' w') (h0 : ¬ K 0) : ∀ {vs : List Value} {ls : List (List UInt8)}, ZRows G w vs ls → ZRows G' w' vs ls
  | [], [], _ => trivial
  | _ :: _, _ :: _, ⟨h1, h2⟩ => ⟨h1.ext hx h0, ZRows.ext hx h0 h2⟩
theorem ZRows.rows {G : Gh} {w : World} : ∀ {vs : List Value} {ls : List (List UInt8)}, ZRows G w vs ls → Rows w vs ls
  | [], [], _ => trivial
  | _ :: _, _ :: _, ⟨h1, h2⟩ => ⟨h1.1, h2.rows⟩
theorem ZRows.own {B : Nat} {t : TypeId} {w w' : World} {G : Gh} (hB : w.heap.size ≤ B) : ∀ {vs : List Value} {ls : List (List UInt8)}, RowsO B t w' vs ls → ZRows (G.new w.heap.size) w' vs ls
  | [], [], _ => trivial
  | _ :: _, _ :: _, ⟨h1, h2⟩ => ⟨.own h1 hB, ZRows.own hB h2⟩
def ZeroR (G : Gh) (w : World) (v : Value) (ls : List (List UInt8)) : Prop := ∃ vs, Zero G w v vs ∧ ZRows G w vs ls
theorem ZeroR.ext {K : Nat → Prop} {G G' : Gh} {w w' : World} {v : Value} {ls : List (List UInt8)} (h : ZeroR G w v ls) (hx : Ext K G w G' w') (h0 : ¬ K 0) : ZeroR G' w' v ls := let ⟨vs, h1, h2⟩ := h; ⟨vs, h1.ext hx h0, h2.ext hx h0⟩
theorem ZeroR.has {G : Gh} {w : World} {v : Value} {ls : List (List UInt8)} (h : ZeroR G w v ls) : HasR w v ls := let ⟨vs, h1, h2⟩ := h; ⟨vs, h1.1, h2.rows⟩
theorem FreshR.zero {B : Nat} {tr t : TypeId} {G : Gh} {w w' : World} {v : Value} {ls : List (List UInt8)} (h : FreshR B tr t w' v ls) (hB : w.heap.size ≤ B) : ZeroR (G.new w.heap.size) w' v ls := let ⟨vs, h1, h2⟩ := h; ⟨vs, .own h1 hB, .own hB h2⟩
end Go.Proofs.YtbnecclognibaaaGreat
