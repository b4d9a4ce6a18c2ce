/- The disk: what waits. -/
import Derived.Test.YtneehlkofcdhoaaSo
namespace Go.Proofs.Ytneehlkofcdhoaa
open Go
set_option linter.unusedSimpArgs false
open Go.RowKit (intOf)
theorem Dsk.mem_waiting {D : Dsk} (hok : D.Ok) {n : Nat} : n ∈ D.waiting ↔ D.wait n ≠ [] := by
  simp only [Dsk.waiting, List.mem_filter, List.mem_range, Bool.not_eq_true', List.isEmpty_eq_false_iff]
  exact ⟨fun h => h.2, fun h => ⟨hok.waits h, h⟩⟩
theorem Dsk.waiting_rising (D : Dsk) : D.waiting.Pairwise (· < ·) := List.Pairwise.filter _ List.pairwise_lt_range
theorem Dsk.waiting_length (D : Dsk) : D.waiting.length ≤ D.first.length := by
  have := List.length_filter_le (fun n => !(D.wait n).isEmpty) (List.range D.first.length)
  simpa [Dsk.waiting] using this
/-- Whole numbers as Go's. -/
abbrev zs (l : List Nat) : List Int := l.map fun n : Nat => (n : Int)
theorem zs_rising {l : List Nat} (h : l.Pairwise (· < ·)) : (zs l).Pairwise (· < ·) := by
  rw [List.pairwise_map]; exact h.imp (fun h => by omega)

theorem waiting_spec {G : Gh} {κ : Nat} {w : World} {p : Nat} {D : Dsk} (h : DiskAt G κ w p D) :
    Calls Try.prog 24 #[.pointer (some ⟨p, 0, none⟩)] w (Ret fun v w' => ∃ a b, v = .tuple #[a, b] ∧ w'.ownsRow w.heap.size 3 1 a D.waiting.length (ints (zs D.waiting)) ∧ w'.ownsRow w.heap.size 3 1 b D.writes.length (ints (zs D.writes)) ∧ a.ownBlock ≠ some w'.heap.size ∧ Grow w w') := by
  obtain ⟨hok, hl, vf, vl, vs, m, hp, ho, hf, h1, h2, hs, hw⟩ := id h
  have hc3 : w.cell? ⟨p, 3, none⟩ = some (.map (some m)) := by rw [cell_block hp]; rfl
  obtain ⟨es, clk, hes, hom, hmok, hall, hhas, hsp⟩ := id hw
  have hml : m < w.heap.size := (Array.getElem?_eq_some_iff.1 hes).1
  have hunder : Try.prog.underlying 90 = some (.map 3 46) := by kernel_rfl
  have hwl := D.waiting_length
  have hmost := hok.most
  apply enter24
  apply R_in
  simp (maxSteps := 600000) (disch := omega) only [F24, ↓sy1, sy2, sy3, readOK, sy5, sy6, Nat.reduceEqDiff, ↓reduceIte, sy7, sy8, sy9, sya, oneOf, syb, syc, Nat.reduceAdd, Nat.reduceMul, syd, sye, syf, syg, syh, reduceCtorEq, hc3]
  refine range_rule (m := m) (by simp only [upd_at, Nat.reduceEqDiff, reduceIte, ev_tmp, ev_const, List.map_cons, List.map_nil]) hunder hes ?_
  have hg1 : Grow w (w.alloc (.mapIter (some m) clk #[] clk)) := (Keep.refl _ _).alloc _
  have hr1 := heap_alloc_new w (.mapIter (some m) clk #[] clk)
  have hrw : w.heap.size ≤ w.heap.size := Nat.le_refl _
  have hrl : w.heap.size < (w.alloc (.mapIter (some m) clk #[] clk)).heap.size := by simp
  generalize w.alloc (.mapIter (some m) clk #[] clk) = w1 at hg1 hr1 hrl ⊢
  generalize hre : w.heap.size = r at hr1 hrl ⊢
  simp (maxSteps := 600000) (disch := omega) only [↓sy1, sy2, sy3, readOK, sy5, sy6, Nat.reduceEqDiff, ↓reduceIte, sy7, sy8, sy9, sya, oneOf, syb, syc, Nat.reduceAdd, Nat.reduceMul, syd, sye, syf, syg, syh, reduceCtorEq]
  refine mloop_rule (r := r) (m := m) (clk := clk) (es := es) (fun seen e w' => e 0 = .pointer (some ⟨p, 0, none⟩) ∧ e 14 = .pointer (some ⟨r, 0, none⟩) ∧ e 3 = .slice none 0 0 ∧ Grow w w' ∧
      ∃ ns : List Int, w'.ownsRow r 3 1 (e 2) ns.length (ints ns) ∧ ns.Nodup ∧ ∀ a, a ∈ ns ↔ ∃ y ∈ es.toList, y.born ∈ seen ∧ y.key = .int .i64 a)
    hr1 ⟨by simp [upd], by simp [upd], by simp [upd], hg1, [], World.ownsRow_nil w1 _ _ _, by simp, by simp⟩ ?_
  rintro seen e w2 hr2 ⟨e0, e14, e3, hg, ns, hown, hnd, hmem⟩
  have hes2 := hg.gheap hes
  have hsub : ∀ a ∈ ns, a ∈ zs D.waiting := fun a ha => by
    obtain ⟨y, hy, _, hk⟩ := (hmem a).1 ha
    obtain ⟨n, hn, us, b, c, _, _, _, hne, _⟩ := hall y hy
    rw [hn] at hk
    have : a = (n : Int) := by simpa using hk.symm
    subst this
    exact List.mem_map.2 ⟨n, (Dsk.mem_waiting hok).2 hne, rfl⟩
  have hnl : ns.length ≤ 4096 := by
    have := List.Nodup.length_le_of_subset hnd hsub
    simp at this; omega
  simp (maxSteps := 600000) (disch := omega) only [F24_L0, ↓sy1, sy2, sy3, readOK, sy5, sy6, Nat.reduceEqDiff, ↓reduceIte, sy7, sy8, sy9, sya, oneOf, syb, syc, Nat.reduceAdd, Nat.reduceMul, syd, sye, syf, syg, syh, reduceCtorEq]
  refine next_rule (by simp only [ev_tmp, e14]) hr2 hes2 hmok (fun hend => ?_) (fun y hy hyn w3 hk3 hr3 => ?_)
  · simp (maxSteps := 600000) (disch := omega) only [↓sy1, sy2, sy3, readOK, sy5, sy6, Nat.reduceEqDiff, ↓reduceIte, sy7, sy8, sy9, sya, oneOf, syb, syc, Nat.reduceAdd, Nat.reduceMul, syd, sye, syf, syg, syh, reduceCtorEq, e3]
    refine call0 (sort_spec hown (by omega)) ?_
    rintro _ w3 ⟨hown3, hk3⟩
    have hsort : sortI ns = zs D.waiting := sortI_eq hnd (zs_rising D.waiting_rising) (fun a => ⟨hsub a, fun ha => by
      obtain ⟨n, hn, rfl⟩ := List.mem_map.1 ha
      obtain ⟨y, hy, hk⟩ := hhas n ((Dsk.mem_waiting hok).1 hn)
      exact (hmem _).2 ⟨y, hy, hend y hy, hk⟩⟩)
    have hnsl : ns.length = D.waiting.length := by
      have : (sortI ns).length = ns.length := List.length_mergeSort _
      rw [hsort] at this; simpa using this.symm
    rw [hsort, hnsl] at hown3
    have hg3 : Grow w w3 := hg.then hk3 (fun b hb h => by
      obtain ⟨hbb, _⟩ := World.ownsRow.lt hown b h; omega)
    generalize hout2 : e 2 = out at hown hown3 hk3
    have hout : ∀ b, out.ownBlock = some b → b < w3.heap.size := fun b hb => (World.ownsRow.lt hown3 b hb).2
    have hlen3 : ∀ w', lenF w' 0 out = some (.int .i64 D.waiting.length) := fun w' => by rw [(Has.own hown3).lenI]; simp
    simp (maxSteps := 600000) (disch := omega) only [↓sy1, sy2, sy3, readOK, sy5, sy6, Nat.reduceEqDiff, ↓reduceIte, sy7, sy8, sy9, sya, oneOf, syb, syc, Nat.reduceAdd, Nat.reduceMul, syd, sye, syf, syg, syh, reduceCtorEq, e3, hout2, hlen3]
    refine loop_rule (fun e w' => ∃ (i : Nat) (u : Value), i ≤ D.waiting.length ∧ e 27 = .int .i64 i ∧ e 26 = .int .i64 D.waiting.length ∧ e 25 = out ∧ e 2 = out ∧ e 3 = u ∧ e 0 = .pointer (some ⟨p, 0, none⟩) ∧ Grow w3 w' ∧
        w'.ownsRow w3.heap.size 3 1 u i (ints (zs (D.writes.take i)))) (fun e _ => D.waiting.length - (intOf (e 27)).toNat)
      ⟨0, .slice none 0 0, by omega, by simp [upd], by simp [upd], by simp [upd], by simp [upd, hout2], by simp [upd, e3], by simp [upd, e0], Keep.refl _ _, World.ownsRow_nil w3 _ _ _⟩ ?_
    rintro e w4 ⟨i, u, hi, e27, e26, e25, e2, e3, e0, hg4, hu⟩
    have hwr : D.writes.length = D.waiting.length := by simp [Dsk.writes]
    by_cases hlt : i < D.waiting.length
    · have hown4 := own_grow hown3 hg4
      obtain ⟨a, ha, hac, _⟩ := (Has.own hown4).getI (i := i) (by simpa using hlt)
      have hz : (zs D.waiting)[i]'(by simpa using hlt) = ((D.waiting[i] : Nat) : Int) := by simp
      rw [hz] at hac
      have hgw4 := hg3.trans hg4
      have hc34 := hgw4.gcell hc3
      have hwx := hw.ext (K := fun _ => False) (.grow hgw4) id
      obtain ⟨v, hlk, us, hu1, hu2⟩ : ∃ v, lkpV w4 (.slice none 0 0) false (.map (some m)) (.int .i64 (D.waiting[i] : Nat)) = some v ∧ ∃ us, Has 1 w4 v us ∧ us.length = (D.wait D.waiting[i]).length := by
        rcases hwx.lkp D.waiting[i] with ⟨hq, hlk⟩ | ⟨v, hlk, us, b, c, rfl, hu, hr, _⟩
        · exact ⟨_, hlk, [], Has.nil 1 w4, by rw [hq]; rfl⟩
        · exact ⟨_, hlk, us, hu.1, hr.length⟩
      have hql := D.wait_length D.waiting[i]
      simp (maxSteps := 600000) (disch := omega) only [F24_L1, ↓sy1, sy2, sy3, readOK, sy5, sy6, Nat.reduceEqDiff, ↓reduceIte, sy7, sy8, sy9, sya, oneOf, syb, syc, Nat.reduceAdd, Nat.reduceMul, syd, sye, syf, syg, syh, reduceCtorEq, e27, e26, e25, e2, e3, e0, Int.ofNat_lt, hlt, decide_true, ha, hac, hc34, hlk, hu1.len, hu2, oneF_int]
      have hga : Grow w4 (w4.alloc (.cells #[.int .i64 ((D.wait D.waiting[i]).length : Nat)] 3)) := (Keep.refl _ _).alloc _
      refine app_own elemI (by simp only [upd_at, Nat.reduceEqDiff, reduceIte, ev_tmp, ev_const, List.map_cons, List.map_nil, e3]) (by simp only [upd_at, Nat.reduceEqDiff, reduceIte, ev_tmp, ev_const, List.map_cons, List.map_nil]) (own_grow hu hga) Has.new1 (m := 1) rfl (by simp [isCell]) (by omega) (by omega) (by have := hg4.size; simp; omega) ?_
      intro u' w5 ho5 hg5
      simp (maxSteps := 600000) (disch := omega) only [↓sy1, sy2, sy3, readOK, sy5, sy6, Nat.reduceEqDiff, ↓reduceIte, sy7, sy8, sy9, sya, oneOf, syb, syc, Nat.reduceAdd, Nat.reduceMul, syd, sye, syf, syg, syh, reduceCtorEq, e27, e26, e25, e2, e3, e0]
      have hk5 := (Keep.refl (fun b => some b = u.ownBlock) w4).trans (((Keep.refl _ _).alloc _).trans (Keep.grown hg5))
      have hgw : Grow w3 w5 := hg4.then hk5 (fun b hb h => by
        obtain ⟨hbb, _⟩ := World.ownsRow.lt hu b h.symm; omega)
      refine R_out ⟨⟨i + 1, u', by omega, rfl, rfl, hgw, ?_⟩, ?_⟩
      · have ht : zs (D.writes.take (i + 1)) = zs (D.writes.take i) ++ [(((D.wait D.waiting[i]).length : Nat) : Int)] := by
          rw [List.take_succ_eq_append_getElem (by omega)]
          simp [zs, Dsk.writes]
        rw [ht]
        simpa [ints] using ho5
      · simp only [intOf]; omega
    · have hie : i = D.waiting.length := by omega
      subst hie
      simp (maxSteps := 600000) (disch := omega) only [F24_L1, ↓sy1, sy2, sy3, readOK, sy5, sy6, Nat.reduceEqDiff, ↓reduceIte, sy7, sy8, sy9, sya, oneOf, syb, syc, Nat.reduceAdd, Nat.reduceMul, syd, sye, syf, syg, syh, reduceCtorEq, e27, e26, e25, e2, e3, e0, Int.ofNat_lt, hlt, decide_false]
      have hgw4 := hg3.trans hg4
      have htk : D.writes.take D.waiting.length = D.writes := List.take_of_length_le (by omega)
      rw [htk] at hu
      refine R_out ⟨out, u, rfl, own_grow hown3 hg4, ?_, fun hc => by have := hout _ hc; have := hg4.size; omega, hgw4⟩
      rw [hwr]
      exact own_base hu (by have := hg3.size; omega)
  · obtain ⟨n, hyk, hyw⟩ := hall y hy
    have hno : ∀ i v, w2.cell? ⟨r, i, none⟩ ≠ some v := fun i v => by simp [World.cell?, hr2]
    have hg3 : Grow w w3 := hg.then hk3 (fun b hb h => by omega)
    have hown3 := own_keep hown hk3 (fun b hb hbr => by
      obtain ⟨_, ⟨h, _⟩ | ⟨g, cap, cur, hvv, _, h12, _⟩⟩ := hown
      · rw [h] at hb; cases hb
      · rw [hvv] at hb; cases hb
        have : g = r := hbr
        rw [this, hr2] at h12; cases h12)
    simp (maxSteps := 600000) (disch := omega) only [↓sy1, sy2, sy3, readOK, sy5, sy6, Nat.reduceEqDiff, ↓reduceIte, sy7, sy8, sy9, sya, oneOf, syb, syc, Nat.reduceAdd, Nat.reduceMul, syd, sye, syf, syg, syh, reduceCtorEq]
    refine entry_rule (by simp only [upd_at, Nat.reduceEqDiff, reduceIte, ev_tmp, ev_const, List.map_cons, List.map_nil, e14]) hr3 (hg3.gheap hes) hmok hy ?_
    simp (maxSteps := 600000) (disch := omega) only [↓sy1, sy2, sy3, readOK, sy5, sy6, Nat.reduceEqDiff, ↓reduceIte, sy7, sy8, sy9, sya, oneOf, syb, syc, Nat.reduceAdd, Nat.reduceMul, syd, sye, syf, syg, syh, reduceCtorEq, hyk, oneF_int]
    have hga : Grow w3 (w3.alloc (.cells #[.int .i64 n] 3)) := (Keep.refl _ _).alloc _
    refine app_own elemI (by simp only [upd_at, Nat.reduceEqDiff, reduceIte, ev_tmp, ev_const, List.map_cons, List.map_nil]) (by simp only [upd_at, Nat.reduceEqDiff, reduceIte, ev_tmp, ev_const, List.map_cons, List.map_nil]) (own_grow hown3 hga) Has.new1 (m := 1) rfl (by simp [isCell]) (by omega) (by omega) (by have := hg3.size; simp; omega) ?_
    intro out' w4 ho4 hg4
    simp (maxSteps := 600000) (disch := omega) only [↓sy1, sy2, sy3, readOK, sy5, sy6, Nat.reduceEqDiff, ↓reduceIte, sy7, sy8, sy9, sya, oneOf, syb, syc, Nat.reduceAdd, Nat.reduceMul, syd, sye, syf, syg, syh, reduceCtorEq, e14, e3, e0]
    have hk4 := (Keep.refl (fun b => some b = (e 2).ownBlock) w3).trans (((Keep.refl _ _).alloc _).trans (Keep.grown hg4))
    have hgw : Grow w w4 := hg3.then hk4 (fun b hb h => by
      obtain ⟨hbb, _⟩ := World.ownsRow.lt hown3 b h.symm; omega)
    have hr4 : w4.heap[r]? = some (.mapIter (some m) clk (seen ++ [y.born]).toArray clk) := hk4.heap hr3 (fun hc => by
      obtain ⟨_, ⟨h, _⟩ | ⟨g, cap, cur, hvv, _, h12, _⟩⟩ := hown3
      · rw [h] at hc; cases hc
      · rw [hvv] at hc; cases hc; rw [hr3] at h12; cases h12)
    refine R_out (MStep.mk hr2 hy hyn hr4 ⟨by simp [upd, e0], by simp [upd, e14], by simp [upd, e3], hgw, ns ++ [(n : Int)], ?_, ?_, fun a => ?_⟩)
    · simpa [upd, ints] using ho4
    · rw [List.nodup_append]
      refine ⟨hnd, by simp, fun a ha b hb => ?_⟩
      simp at hb; subst hb
      intro hab; subst hab
      obtain ⟨z, hz, hzb, hzk⟩ := (hmem _).1 ha
      have : z = y := by
        obtain ⟨i, hi, rfl⟩ := List.getElem_of_mem hz
        obtain ⟨j, hj, rfl⟩ := List.getElem_of_mem hy
        have hb := hmok.keys
        rw [List.pairwise_iff_getElem] at hb
        rcases Nat.lt_trichotomy i j with hlt | heq | hlt
        · exact absurd (hzk.trans hyk.symm) (hb i j hi hj hlt)
        · subst heq; rfl
        · exact absurd (hyk.trans hzk.symm) (hb j i hj hi hlt)
      subst this; exact hyn hzb
    · simp only [List.mem_append, List.mem_singleton, hmem]
      constructor
      · rintro (⟨z, hz, hzb, hzk⟩ | rfl)
        · exact ⟨z, hz, .inl hzb, hzk⟩
        · exact ⟨y, hy, .inr rfl, hyk⟩
      · rintro ⟨z, hz, hzb | hzb, hzk⟩
        · exact .inl ⟨z, hz, hzb, hzk⟩
        · right
          have : z = y := by
            obtain ⟨i, hi, rfl⟩ := List.getElem_of_mem hz
            obtain ⟨j, hj, rfl⟩ := List.getElem_of_mem hy
            have hb := hmok.born
            rw [List.pairwise_iff_getElem] at hb
            rcases Nat.lt_trichotomy i j with hlt | heq | hlt
            · exact absurd hzb (hb i j hi hj hlt)
            · subst heq; rfl
            · exact absurd hzb.symm (hb j i hj hi hlt)
          subst this
          rw [hyk] at hzk; simpa using hzk.symm
end Go.Proofs.Ytneehlkofcdhoaa
