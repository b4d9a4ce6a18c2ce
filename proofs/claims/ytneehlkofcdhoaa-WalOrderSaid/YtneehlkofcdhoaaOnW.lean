/- A write upon the sectors: the walk. -/
import Derived.Test.YtneehlkofcdhoaaOn
namespace Go.Proofs.Ytneehlkofcdhoaa
open Go
set_option linter.unusedSimpArgs false
open Go.RowKit (intOf)
theorem onWrite_spec {G : Gh} {κ p m : Nat} {w : World} {vf vl vs u : Value} {n : Nat} {b : List UInt8} {q : Nat → List (List UInt8)} (hp : w.heap[p]? = some (.cells #[vf, vl, vs, .map (some m)] 94 (0, 0)))
    (hq : WaitAt G κ w m q) (hu : HasFB G w u b) (hn : (q n).length ≤ 1000000) :
    Calls Try.prog 130 #[.agg #[.int .i64 n, u], .pointer (some ⟨p, 2, none⟩)] w (Ret fun v w' => v = .tuple #[] ∧ ∃ G', WaitAt G' κ w' m (fun k => if k = n then q n ++ [b] else q k) ∧ Ext (fun c => c = κ) G w G' w' ∧ Still m G w G' w') := by
  apply enter130
  apply R_in
  simp (maxSteps := 600000) (disch := omega) only [F130, ↓sy1, sy2, sy3, readOK, sy5, sy6, Nat.reduceEqDiff, ↓reduceIte, sy7, sy8, sy9, sya, oneOf, syb, syc, Nat.reduceAdd, Nat.reduceMul, syd, sye, syf, syg, syh, reduceCtorEq]
  have hpl := (Array.getElem?_eq_some_iff.1 hp).1
  have huc : isCell u = true := hu.1.isCell
  have hg0 : Grow w (w.alloc (.cells (Value.agg #[.int .i64 n, u]).cells 111)).drew := ((Keep.refl _ _).alloc _).drew
  have hb0 : (w.alloc (.cells (Value.agg #[.int .i64 n, u]).cells 111)).drew.heap[w.heap.size]? = some (.cells (Value.agg #[.int .i64 n, u]).cells 111 (0, 0)) := heap_alloc_new w _
  have hx0 : Ext (fun c => c = κ) G w G _ := .grow hg0
  have hq0 := hq.ext (K := fun _ => False) (.grow hg0) id
  have hu0 := hu.ext (κ := fun _ => False) (.grow hg0)
  have hp0 := hg0.gheap hp
  have hr0 : w.heap.size ≠ p := by omega
  generalize hr : w.heap.size = r at hb0 hr0 ⊢
  obtain ⟨v, hl, hv⟩ : ∃ v, lkpV (w.alloc (.cells (Value.agg #[.int .i64 n, u]).cells 111)).drew (.slice none 0 0) false (.map (some m)) (.int .i64 n) = some v ∧ (v = .slice none 0 0 ∧ q n = [] ∨ WaitV G κ (w.alloc (.cells (Value.agg #[.int .i64 n, u]).cells 111)).drew v (q n)) := by
    rcases hq0.lkp n with ⟨h1, h2⟩ | ⟨v, h1, h2⟩
    · exact ⟨_, h2, .inl ⟨rfl, h1⟩⟩
    · exact ⟨_, h1, .inr h2⟩
  refine draw130_0 (fun bb => spare v = some bb) ?_
  generalize (w.alloc (.cells (Value.agg #[.int .i64 n, u]).cells 111)).drew = w0 at hg0 hb0 hx0 hq0 hu0 hp0 hl hv ⊢
  have hc1 : w0.cell? ⟨p, 3, none⟩ = some (.map (some m)) := by rw [cell_block hp0]; rfl
  have hc2 : w0.cell? ⟨r, 0, none⟩ = some (.int .i64 n) := by rw [cell_block hb0]; rfl
  have hc3 : w0.cell? ⟨r, 1, none⟩ = some u := by rw [cell_block hb0]; rfl
  have hmm := hq0
  obtain ⟨es, clk, hes, hom, hok, hall, hhas, hsp⟩ := hmm
  have hml : m < w0.heap.size := (Array.getElem?_eq_some_iff.1 hes).1
  have hkey := WaitAt.keys hall
  -- behind the append: the map is put
  have fin : ∀ (v' : Value) (G1 : Gh) (w1 : World), Ext (fun c => c = κ) G w0 G1 w1 → WaitV G1 κ w1 v' (q n ++ [b]) → w1.heap[m]? = w0.heap[m]? → (∀ bb, bb < w0.heap.size → G.fix bb = 0 → w1.heap[bb]? = w0.heap[bb]? ∧ G1.fix bb = 0) →
      (∀ y ∈ es.toList, y.key ≠ .int .i64 n → (∀ k, spare y.val = some k → w1.heap[k]? = w0.heap[k]? ∧ G1.fix k = G.fix k) ∧ ∀ k, spare y.val = some k → spare v' ≠ some k) →
      ∀ w2, Keep (fun b => b = m) w1 w2 → (((∀ y ∈ es.toList, y.key ≠ .int .i64 n) ∧ w2.heap[m]? = some (.map (es.push ⟨.int .i64 n, v', clk⟩) (clk + 1))) ∨ ∃ j y, es.toList[j]? = some y ∧ y.key = .int .i64 n ∧ w2.heap[m]? = some (.map (es.setIfInBounds j { y with val := v' }) clk)) →
      ∃ G', WaitAt G' κ w2 m (fun k => if k = n then q n ++ [b] else q k) ∧ Ext (fun c => c = κ) G w G' w2 ∧ Still m G w G' w2 := by
    intro v' G1 w1 hx hv hm1 hst hkeep w2 hk hput
    have hx2 : Ext (fun c => c = κ) G1 w1 G1 w2 := .onMap (hm1.trans hes) hk (by rw [hx.own m hml]; exact hom)
    refine ⟨G1, hq0.put hx hv hm1 hk (fun es' clk' h' => ?_) (fun es' clk' h' => ?_), (hx0.trans hx).trans hx2, fun bb hb hf hbm => ?_⟩
    · rw [hes] at h'; cases h'; exact hkeep
    · rw [hes] at h'; cases h'; exact hput
    · obtain ⟨h1, h2⟩ := hst bb (Nat.lt_of_lt_of_le hb hg0.size) hf
      exact ⟨(hk.blk bb (Nat.lt_of_lt_of_le hb (hx0.trans hx).size) hbm).trans (h1.trans (hg0.blk bb hb id)), h2⟩
  have hunder : Try.prog.underlying 90 = some (.map 3 46) := by kernel_rfl
  have hint : Try.prog.underlying 3 = some (.int .i64) := by kernel_rfl
  have hXp : ¬ spare v = some p := fun hc => by
    rcases hv with ⟨rfl, _⟩ | hv
    · cases hc
    · obtain ⟨_, _, _, _, c, h⟩ := hv.spare hc; rw [hp0] at h; cases h
  have hXm : ¬ spare v = some m := fun hc => by
    rcases hv with ⟨rfl, _⟩ | hv
    · cases hc
    · obtain ⟨_, _, _, _, c, h⟩ := hv.spare hc; rw [hes] at h; cases h
  have hXr : ¬ spare v = some r := fun hc => by
    rcases hv with ⟨rfl, _⟩ | hv
    · cases hc
    · obtain ⟨_, _, _, _, c, h⟩ := hv.spare hc; rw [hb0] at h; cases h
  simp (maxSteps := 600000) (disch := omega) only [PL130_0, ↓sy1, sy2, sy3, readOK, sy5, sy6, Nat.reduceEqDiff, ↓reduceIte, sy7, sy8, sy9, sya, oneOf, syb, syc, Nat.reduceAdd, Nat.reduceMul, syd, sye, syf, syg, syh, reduceCtorEq, hc1, hc2, hc3, hl, hXp, hXm, hXr, oneF_cell huc]
  have hga : Grow w0 (w0.alloc (.cells #[u] 28)) := (Keep.refl _ _).alloc _
  have hxa : ∀ {K : Nat → Prop}, Ext K G w0 G (w0.alloc (.cells #[u] 28)) := .grow hga
  have hsz : (w0.alloc (.cells #[u] 28)).heap.size = w0.heap.size + 1 := by simp
  have hsrc : Has 1 (w0.alloc (.cells #[u] 28)) (.slice (some ⟨w0.heap.size, 0, none⟩) 1 1) [u] := Has.new1
  generalize w0.alloc (.cells #[u] 28) = w1 at hga hxa hsz hsrc ⊢
  refine ⟨hga.mono (fun _ _ h => h.elim), ?_⟩
  have hspv : ∀ k, spare v = some k → k < w0.heap.size ∧ 0 < G.fix k := fun k hk => by
    rcases hv with ⟨rfl, _⟩ | hv
    · cases hk
    · obtain ⟨h1, h2, h3, h4, _⟩ := hv.spare hk
      exact ⟨h1, by omega⟩
  have hin : ∀ y ∈ es.toList, y.key = .int .i64 n → spare y.val = spare v := fun y hy hk => by
    have := lkp_eq (z := .slice none 0 0) hes hkey (findInt_eq hkey hok.keys hy hk)
    rw [hl] at this
    rw [Option.some.inj this]
  have last : ∀ (v' : Value) (G1 : Gh) (w2 : World), Keep (fun bb => spare v = some bb) w1 w2 → Ext (fun c => c = κ) G w1 G1 w2 → WaitV G1 κ w2 v' (q n ++ [b]) → (∀ bb, bb < w0.heap.size → spare v ≠ some bb → G1.fix bb = G.fix bb) →
      (∀ k, spare v' = some k → k < w0.heap.size → spare v = some k) → ∀ w3, Keep (fun b => b = m) w2 w3 → (((∀ y ∈ es.toList, y.key ≠ .int .i64 n) ∧ w3.heap[m]? = some (.map (es.push ⟨.int .i64 n, v', clk⟩) (clk + 1))) ∨ ∃ j y, es.toList[j]? = some y ∧ y.key = .int .i64 n ∧ w3.heap[m]? = some (.map (es.setIfInBounds j { y with val := v' }) clk)) →
      ∃ G', WaitAt G' κ w3 m (fun k => if k = n then q n ++ [b] else q k) ∧ Ext (fun c => c = κ) G w G' w3 ∧ Still m G w G' w3 := by
    intro v' G1 w2 hk hx hw hfx hsv w3 hk3 hput
    have hbl : ∀ bb, bb < w0.heap.size → spare v ≠ some bb → w2.heap[bb]? = w0.heap[bb]? := fun bb hb hn => (hk.blk bb (by omega) hn).trans (hga.blk bb hb id)
    refine fin v' G1 w2 (hxa.trans hx) hw (hbl m hml hXm) (fun bb hb hf => ?_) (fun y hy hne => ?_) w3 hk3 hput
    · have hn : spare v ≠ some bb := fun hc => by have := (hspv bb hc).2; omega
      exact ⟨hbl bb hb hn, by rw [hfx bb hb hn]; exact hf⟩
    · have hyw : ∃ ls, WaitV G κ w0 y.val ls := by obtain ⟨n', _, h⟩ := hall y hy; exact ⟨_, h⟩
      obtain ⟨ls, hyw⟩ := hyw
      have hyv : ∀ k, spare y.val = some k → spare v ≠ some k := fun k hk' hvk => by
        by_cases hex : ∃ z ∈ es.toList, z.key = .int .i64 n
        · obtain ⟨z, hz, hzk⟩ := hex
          have hzs := hin z hz hzk
          obtain ⟨i, hi, rfl⟩ := List.getElem_of_mem hy
          obtain ⟨j, hj, rfl⟩ := List.getElem_of_mem hz
          have hij : i ≠ j := fun hc => by subst hc; exact hne hzk
          rw [List.pairwise_iff_getElem] at hsp
          rcases Nat.lt_or_gt_of_ne hij with hlt | hlt
          · exact hsp i j hi hj hlt k hk' (by rw [hzs]; exact hvk)
          · exact hsp j i hj hi hlt k (by rw [hzs]; exact hvk) hk'
        · have hnone := lkp_none (z := .slice none 0 0) hes hkey (findInt_none hkey (n := n) (fun z hz hc => hex ⟨z, hz, hc⟩))
          rw [hl] at hnone
          rw [Option.some.inj hnone] at hvk
          cases hvk
      refine ⟨fun k hk' => ⟨hbl k (hyw.spare hk').1 (hyv k hk'), hfx k (hyw.spare hk').1 (hyv k hk')⟩, fun k hk' hc => hyv k hk' (hsv k hc (hyw.spare hk').1)⟩
  obtain ⟨xs, hxs, hrows, hcase⟩ : ∃ xs, HasF G w0 v xs ∧ RowsF G w0 xs (q n) ∧ ((spare v = none ∧ ∀ a n c, v = .slice (some a) n c → n = c) ∨ ∃ g cap, v = .slice (some ⟨g, 0, none⟩) (q n).length cap ∧ (q n).length < cap ∧ G.own g = κ ∧ G.fix g = (q n).length ∧ w0.ownsRow 0 28 1 v (q n).length xs) := by
    rcases hv with ⟨rfl, h⟩ | ⟨xs, g, cap, rfl, h1, h2, h3, h4⟩
    · exact ⟨[], HasF.nil G w0, by rw [h]; trivial, .inl ⟨rfl, fun _ _ _ h => by cases h⟩⟩
    · by_cases hlt : (q n).length < cap
      · obtain ⟨h5, h6, h7⟩ := h4 hlt
        exact ⟨xs, h1, h2, .inr ⟨g, cap, rfl, hlt, h5, h6, h7⟩⟩
      · refine ⟨xs, h1, h2, .inl ⟨by simp [spare, hlt], fun a n' c h => ?_⟩⟩
        cases h
        rcases h1.1 with ⟨b', o', n'', c'', hvv, h8, h9, _⟩ | ⟨_, hvv⟩
        · cases hvv; omega
        · cases hvv
  have hlen : xs.length = (q n).length := hrows.length
  have hxa0 : Ext (fun _ => False) G w0 G w1 := .grow hga
  have hkm : ∀ {w2 : World}, Keep (fun bb => spare v = some bb) w1 w2 → w2.heap[m]? = some (.map es clk) := fun hk => hk.heap (hga.gheap hes) hXm
  rcases hcase with ⟨hsn, hfull⟩ | ⟨g, cap, rfl, hlt, hog, hfg, hown⟩
  · refine app_full elemR (by simp only [upd_at, Nat.reduceEqDiff, reduceIte, ev_tmp, ev_const, List.map_cons, List.map_nil]) (by simp only [upd_at, Nat.reduceEqDiff, reduceIte, ev_tmp, ev_const, List.map_cons, List.map_nil]) (hxs.1.grow hga) hfull hsrc huc (by omega) (by omega) ?_
    intro c w2 hg2 hown2
    have hk2 : Keep (fun bb => spare v = some bb) w1 w2 := Keep.grow hg2
    have hx2 : Ext (fun c => c = κ) G w1 (G.at w1.heap.size κ ((q n).length + 1)) w2 := .fresh hg2 (Nat.le_refl _)
    have hwv : WaitV (G.at w1.heap.size κ ((q n).length + 1)) κ w2 (.slice (some ⟨w1.heap.size, 0, none⟩) (xs.length + 1) c) (q n ++ [b]) := by
      refine ⟨xs ++ [u], w1.heap.size, c, by simp [hlen], ⟨Has.own hown2, fun b' o l c' hvv _ => ?_⟩, ((hrows.ext hxa0).ext hx2).snoc ((hu0.ext hxa0).ext hx2), by simp, fun _ => ⟨Gh.at_own, by rw [Gh.at_fix]; simp, ?_⟩⟩
      · cases hvv; rw [Gh.at_fix]; simp [hlen]
      · have := own_base (B' := 0) hown2 (Nat.zero_le _)
        simpa [hlen] using this
    simp (maxSteps := 600000) (disch := omega) only [↓sy1, sy2, sy3, readOK, sy5, sy6, Nat.reduceEqDiff, ↓reduceIte, sy7, sy8, sy9, sya, oneOf, syb, syc, Nat.reduceAdd, Nat.reduceMul, syd, sye, syf, syg, syh, reduceCtorEq]
    refine ⟨(Keep.grow hga).trans hk2, ?_⟩
    have fin3 := last _ _ w2 hk2 hx2 hwv (fun bb hb _ => Gh.at_fix' (by omega)) (fun k hk hlt => by
      simp only [spare] at hk
      split at hk
      · cases hk; have := hga.size; omega
      · cases hk)
    refine put_rule (n := n) (v := .slice (some ⟨w1.heap.size, 0, none⟩) (xs.length + 1) c) (by simp only [upd_at, Nat.reduceEqDiff, reduceIte, ev_tmp, ev_const, List.map_cons, List.map_nil]) (by simp only [upd_at, Nat.reduceEqDiff, reduceIte, ev_tmp, ev_const, List.map_cons, List.map_nil]) (by simp only [upd_at, Nat.reduceEqDiff, reduceIte, ev_tmp, ev_const, List.map_cons, List.map_nil]) hunder hint (hkm hk2) hkey (fun hn w3 hk3 hm3 => ?_) (fun j y hj hy w3 hk3 hm3 => ?_)
    · exact R_out (fin3 w3 hk3 (.inl ⟨hn, hm3⟩))
    · exact R_out (fin3 w3 hk3 (.inr ⟨j, y, hj, hy, hm3⟩))
  · have hgl : g < w0.heap.size := (World.ownsRow.lt hown g rfl).2
    have hsg : spare (.slice (some ⟨g, 0, none⟩) (q n).length cap) = some g := by simp [spare, hlt]
    have hown1 := own_grow hown hga
    rw [← hlen] at hown1
    refine app_room elemR (by simp only [upd_at, Nat.reduceEqDiff, reduceIte, ev_tmp, ev_const, List.map_cons, List.map_nil]; rw [hlen]) (by simp only [upd_at, Nat.reduceEqDiff, reduceIte, ev_tmp, ev_const, List.map_cons, List.map_nil]) hown1 (by omega) hsrc huc ?_
    intro w2 hkg hown2
    have hk2 : Keep (fun bb => spare (.slice (some ⟨g, 0, none⟩) (q n).length cap) = some bb) w1 w2 := hkg.mono (fun b _ h => by rw [h]; exact hsg)
    have hx2 : Ext (fun c => c = κ) G w1 (G.at g κ ((q n).length + 1)) w2 := by
      refine .upd hkg (fun _ => ⟨hog, by omega⟩) (fun _ i v' hi hc => ?_)
      have hil : i < xs.length := by omega
      have h1 := World.ownsRow.cells hown1 (g := g) rfl i xs[i] (List.getElem?_eq_getElem hil)
      have h2 := World.ownsRow.cells hown2 (g := g) rfl i xs[i] (by rw [List.getElem?_append_left hil]; exact List.getElem?_eq_getElem hil)
      rw [add_lit] at h1 h2
      simp only [Nat.zero_add] at h1 h2
      rw [h1] at hc
      rw [h2]; exact hc
    have hwv : WaitV (G.at g κ ((q n).length + 1)) κ w2 (.slice (some ⟨g, 0, none⟩) (xs.length + 1) cap) (q n ++ [b]) := by
      refine ⟨xs ++ [u], g, cap, by simp [hlen], ⟨Has.own hown2, fun b' o l c' hvv _ => ?_⟩, ((hrows.ext hxa0).ext hx2).snoc ((hu0.ext hxa0).ext hx2), by simp, fun _ => ⟨Gh.at_own, by rw [Gh.at_fix]; simp, ?_⟩⟩
      · cases hvv; rw [Gh.at_fix]; simp [hlen]
      · simpa [hlen] using hown2
    simp (maxSteps := 600000) (disch := omega) only [↓sy1, sy2, sy3, readOK, sy5, sy6, Nat.reduceEqDiff, ↓reduceIte, sy7, sy8, sy9, sya, oneOf, syb, syc, Nat.reduceAdd, Nat.reduceMul, syd, sye, syf, syg, syh, reduceCtorEq]
    refine ⟨(Keep.grow hga).trans hk2, ?_⟩
    have fin3 := last _ _ w2 hk2 hx2 hwv (fun bb hb hne => Gh.at_fix' (fun hc => hne (by rw [hc]; exact hsg))) (fun k hk _ => by
      simp only [spare] at hk
      split at hk
      · cases hk; exact hsg
      · cases hk)
    refine put_rule (n := n) (v := .slice (some ⟨g, 0, none⟩) (xs.length + 1) cap) (by simp only [upd_at, Nat.reduceEqDiff, reduceIte, ev_tmp, ev_const, List.map_cons, List.map_nil]) (by simp only [upd_at, Nat.reduceEqDiff, reduceIte, ev_tmp, ev_const, List.map_cons, List.map_nil]) (by simp only [upd_at, Nat.reduceEqDiff, reduceIte, ev_tmp, ev_const, List.map_cons, List.map_nil]) hunder hint (hkm hk2) hkey (fun hn w3 hk3 hm3 => ?_) (fun j y hj hy w3 hk3 hm3 => ?_)
    · exact R_out (fin3 w3 hk3 (.inl ⟨hn, hm3⟩))
    · exact R_out (fin3 w3 hk3 (.inr ⟨j, y, hj, hy, hm3⟩))
end Go.Proofs.Ytneehlkofcdhoaa
