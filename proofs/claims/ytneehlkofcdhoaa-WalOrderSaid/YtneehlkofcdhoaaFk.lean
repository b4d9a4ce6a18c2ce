/- The disk: Fork. -/
import Derived.Test.YtneehlkofcdhoaaCt
namespace Go.Proofs.Ytneehlkofcdhoaa
open Go
set_option linter.unusedSimpArgs false
open Go.RowKit (intOf)
theorem agg4_cells {x y z u : Value} (hx : isCell x = true) (hy : isCell y = true) (hz : isCell z = true) (hu : isCell u = true) : (Value.agg #[x, y, z, u]).cells = #[x, y, z, u] := by
  simp [Value.cells, isCell_cells hx, isCell_cells hy, isCell_cells hz, isCell_cells hu]
/-- The entries of a new map: those of the old one that have been seen, without room. -/
def Forked (es : List MapEntry) (seen : List Nat) (es2 : List MapEntry) : Prop :=
  (∀ z ∈ es2, ∃ y ∈ es, y.born ∈ seen ∧ z.key = y.key ∧ ∃ b n c, y.val = .slice (some ⟨b, 0, none⟩) n c ∧ z.val = .slice (some ⟨b, 0, none⟩) n n) ∧ ∀ y ∈ es, y.born ∈ seen → ∃ z ∈ es2, z.key = y.key
theorem slcAll0 {b n c : Nat} : slcF 1 (.slice (some ⟨b, 0, none⟩) n c) none (some (.int .i64 n)) (some (.int .i64 n)) = some (.slice (some ⟨b, 0, none⟩) n n) ∨ c < n := by
  by_cases h : c < n
  · exact .inr h
  · left
    simp only [slcF, slcV, bndV]
    rw [if_pos ⟨by omega, by omega⟩]
    simp only []
    rw [if_pos ⟨by omega, by omega⟩]
    simp [add_lit]
theorem MapOk.uniq {es : List MapEntry} {clk : Nat} (h : MapOk es clk) {y z : MapEntry} (hy : y ∈ es) (hz : z ∈ es) (hk : y.key = z.key) : y = z := by
  obtain ⟨i, hi, rfl⟩ := List.getElem_of_mem hy
  obtain ⟨j, hj, rfl⟩ := List.getElem_of_mem hz
  have hp := List.pairwise_iff_getElem.1 h.keys
  rcases Nat.lt_trichotomy i j with hlt | heq | hlt
  · exact absurd hk (hp i j hi hj hlt)
  · subst heq; rfl
  · exact absurd hk.symm (hp j i hj hi hlt)
theorem MapOk.uniqB {es : List MapEntry} {clk : Nat} (h : MapOk es clk) {y z : MapEntry} (hy : y ∈ es) (hz : z ∈ es) (hk : y.born = z.born) : y = z := by
  obtain ⟨i, hi, rfl⟩ := List.getElem_of_mem hy
  obtain ⟨j, hj, rfl⟩ := List.getElem_of_mem hz
  have hp := List.pairwise_iff_getElem.1 h.born
  rcases Nat.lt_trichotomy i j with hlt | heq | hlt
  · exact absurd hk (hp i j hi hj hlt)
  · subst heq; rfl
  · exact absurd hk.symm (hp j i hj hi hlt)
theorem MapOk.push {es : Array MapEntry} {clk : Nat} {n : Int} {v : Value} (h : MapOk es.toList clk) (hn : ∀ y ∈ es.toList, y.key ≠ .int .i64 n) : MapOk (es.push ⟨.int .i64 n, v, clk⟩).toList (clk + 1) := by
  refine ⟨?_, ?_, ?_⟩
  · rw [Array.toList_push, List.pairwise_append]
    refine ⟨h.keys, by simp, fun a ha c hc => ?_⟩
    simp at hc; subst hc; exact hn a ha
  · rw [Array.toList_push, List.pairwise_append]
    refine ⟨h.born, by simp, fun a ha c hc => ?_⟩
    simp at hc; subst hc; have := h.clk a ha; simp only; omega
  · intro z hz
    rw [Array.toList_push, List.mem_append] at hz
    rcases hz with hz | hz
    · have := h.clk z hz; omega
    · simp at hz; subst hz; simp
theorem Forked.push {es : List MapEntry} {seen : List Nat} {es2 : Array MapEntry} {y : MapEntry} {n : Nat} {b len c clk clk0 : Nat} (hok : MapOk es clk0) (h : Forked es seen es2.toList) (hy : y ∈ es) (hk : y.key = .int .i64 n) (hv : y.val = .slice (some ⟨b, 0, none⟩) len c) :
    Forked es (seen ++ [y.born]) (es2.push ⟨.int .i64 n, .slice (some ⟨b, 0, none⟩) len len, clk⟩).toList := by
  refine ⟨fun z hz => ?_, fun x hx hxs => ?_⟩
  · rw [Array.toList_push, List.mem_append] at hz
    rcases hz with hz | hz
    · obtain ⟨y', h1, h2, h3⟩ := h.1 z hz
      exact ⟨y', h1, by simp [h2], h3⟩
    · simp at hz; subst hz
      exact ⟨y, hy, by simp, hk.symm, b, len, c, hv, rfl⟩
  · rw [List.mem_append] at hxs
    rcases hxs with hxs | hxs
    · obtain ⟨z, hz, hzk⟩ := h.2 x hx hxs
      exact ⟨z, by rw [Array.toList_push, List.mem_append]; exact .inl hz, hzk⟩
    · have hxy := hok.uniqB hx hy (by simpa using hxs)
      subst hxy
      exact ⟨_, by rw [Array.toList_push, List.mem_append]; exact .inr (List.mem_singleton.2 rfl), hk.symm⟩
theorem HasF.tight {G : Gh} {w : World} {b n c : Nat} {vs : List Value} (h : HasF G w (.slice (some ⟨b, 0, none⟩) n c) vs) : HasF G w (.slice (some ⟨b, 0, none⟩) n n) vs := by
  obtain ⟨⟨b', o', n', c', hv, h1, h2, h3⟩ | ⟨_, h⟩, hf⟩ := h
  · cases hv
    exact ⟨.inl ⟨b, 0, n, n, rfl, h1, Nat.le_refl _, h3⟩, fun b'' o'' l'' c'' hv hn => by cases hv; exact hf b 0 n c rfl hn⟩
  · cases h
theorem fork_end {G : Gh} {κ κ' : Nat} {w w' : World} {q mn clk clk2 : Nat} {D : Dsk} {vf vl u : Value} {ts : List Value} {es es2 : Array MapEntry} {seen : List Nat} (hok : D.Ok) (hl : D.ops.length ≤ 1000000) (h1 : RowsAt G w vf D.first) (h2 : OpsAt G w vl D.ops)
    (h6 : RowsF G w ts D.safe) (hall : ∀ e ∈ es.toList, ∃ n : Nat, e.key = .int .i64 n ∧ WaitV G κ w e.val (D.wait n)) (hhas : ∀ n, D.wait n ≠ [] → ∃ e ∈ es.toList, e.key = .int .i64 (n : Nat)) (hmok : MapOk es.toList clk) (hg : Grow w w')
    (hb : w'.heap[q]? = some (.cells #[vf, vl, u, .map (some mn)] 94 (0, 0))) (hown : w'.ownsRow w.heap.size 28 1 u ts.length ts) (hm : w'.heap[mn]? = some (.map es2 clk2)) (hok2 : MapOk es2.toList clk2) (hfk : Forked es.toList seen es2.toList)
    (hend : ∀ y ∈ es.toList, y.born ∈ seen) (hq : w.heap.size ≤ q) (hmn : w.heap.size ≤ mn) :
    DiskAt (G.upto w.heap.size (fun _ => κ') (fun _ => 0)) κ' w' q D ∧ Ext0 G w (G.upto w.heap.size (fun _ => κ') (fun _ => 0)) w' := by
  have hx : Ext0 G w (G.upto w.heap.size (fun _ => κ') (fun _ => 0)) w' := .upto hg _ _
  have hno : ∀ b, w.heap.size ≤ b → (G.upto w.heap.size (fun _ => κ') (fun _ => 0)).own b = κ' ∧ (G.upto w.heap.size (fun _ => κ') (fun _ => 0)).fix b = 0 := fun b hb => by simp [Gh.upto, Nat.not_lt.2 hb]
  have hsl := D.safe_length
  have htl := h6.length
  have hsome := hok.some
  refine ⟨⟨hok, hl, vf, vl, u, mn, hb, (hno q hq).1, (hno q hq).2, h1.ext hx, h2.ext hx, ?_, es2, clk2, hm, (hno mn hmn).1, hok2, fun z hz => ?_, fun n hn => ?_, ?_⟩, hx⟩
  · obtain ⟨_, ⟨hn, hz⟩ | ⟨g, cap, cur, hu, hB, _⟩⟩ := id hown
    · omega
    · exact ⟨ts, g, by rw [hu]; rfl, by rw [← htl]; exact own_base hown (Nat.zero_le _), h6.ext hx, (hno g hB).1, (hno g hB).2⟩
  · obtain ⟨y, hy, _, hzk, b, n', c, hyv, hzv⟩ := hfk.1 z hz
    obtain ⟨n, hyk, us, b', c', hyv', hu1, hu2, hne, _⟩ := hall y hy
    rw [hyv] at hyv'; cases hyv'
    rw [hyv] at hu1
    exact ⟨n, hzk.trans hyk, us, b, _, hzv, (by rw [hzv]; exact hu1.tight.ext hx), hu2.ext hx, hne, fun h => by omega⟩
  · obtain ⟨y, hy, hyk⟩ := hhas n hn
    obtain ⟨z, hz, hzk⟩ := hfk.2 y hy (hend y hy)
    exact ⟨z, hz, hzk.trans hyk⟩
  · refine hok2.keys.imp_of_mem (fun {a c} ha _ _ k hk => ?_)
    obtain ⟨_, _, _, _, b, n', c', _, hzv⟩ := hfk.1 a ha
    rw [hzv] at hk
    simp [spare] at hk
set_option maxHeartbeats 1600000 in
theorem fork_spec {G : Gh} {κ : Nat} {w : World} {p : Nat} {D : Dsk} (κ' : Nat) (h : DiskAt G κ w p D) :
    Calls Try.prog 49 #[.pointer (some ⟨p, 0, none⟩)] w (Ret fun v w' => ∃ q G', v = .pointer (some ⟨q, 0, none⟩) ∧ w.heap.size ≤ q ∧ DiskAt G' κ' w' q D ∧ Ext0 G w G' w') := by
  obtain ⟨hok, hl, vf, vl, vs, m, hp, ho, hf, h1, h2, ⟨ts, sb, h4, h5, h6, h7, h8⟩, ⟨es, clk, hes, hom, hmok, hall, hhas, hsp⟩⟩ := h
  have hpl := (Array.getElem?_eq_some_iff.1 hp).1
  have hml := (Array.getElem?_eq_some_iff.1 hes).1
  have hsl := D.safe_length
  have htl := h6.length
  have hmost := hok.most
  have hsome := hok.some
  have hvf : isCell vf = true := by obtain ⟨_, h, _⟩ := h1; exact h.1.isCell
  have hvl : isCell vl = true := by obtain ⟨_, h, _⟩ := h2; exact h.1.isCell
  have hunder : Try.prog.underlying 90 = some (.map 3 46) := by kernel_rfl
  have hint : Try.prog.underlying 3 = some (.int .i64) := by kernel_rfl
  apply enter49
  apply R_in
  simp (maxSteps := 600000) (disch := omega) only [F49, ↓sy1, sy2, sy3, readOK, sy5, sy6, Nat.reduceEqDiff, ↓reduceIte, sy7, sy8, sy9, sya, oneOf, syb, syc, Nat.reduceAdd, Nat.reduceMul, syd, sye, syf, syg, syh, reduceCtorEq]
  refine draw49_0 (fun _ => False) ?_
  have hgd : Grow w w.drew := (Keep.refl _ _).drew
  generalize w.drew = w1 at hgd ⊢
  have hp1 := hgd.gheap hp
  have hc0 : w1.cell? ⟨p, 0, none⟩ = some vf := by rw [cell_block hp1]; rfl
  have hc1 : w1.cell? ⟨p, 1, none⟩ = some vl := by rw [cell_block hp1]; rfl
  have hc2 : w1.cell? ⟨p, 2, none⟩ = some vs := by rw [cell_block hp1]; rfl
  have hgm : Grow w1 (w1.alloc (.map #[] 0)) := (Keep.refl _ _).alloc _
  have hbm := heap_alloc_new w1 (.map #[] 0)
  have hsm : (w1.alloc (.map #[] 0)).heap.size = w1.heap.size + 1 := by simp
  generalize hwm : w1.alloc (.map #[] 0) = wm at hgm hbm hsm
  simp (maxSteps := 600000) (disch := omega) only [PL49_0, ↓sy1, sy2, sy3, readOK, sy5, sy6, Nat.reduceEqDiff, ↓reduceIte, sy7, sy8, sy9, sya, oneOf, syb, syc, Nat.reduceAdd, Nat.reduceMul, syd, sye, syf, syg, syh, reduceCtorEq, hc0, hc1, hc2, hwm]
  refine ⟨?_, hgm, ?_⟩
  · refine call0 (slicesClone_spec vs ts w1 ((Has.own h5).grow hgd) h6.cell (by omega)) ?_
    rintro u w2 ⟨hu, hg2⟩
    have huc := (Has.own hu).isCell
    have hg3 : Grow w2 (w2.alloc (.map #[] 0)) := (Keep.refl _ _).alloc _
    have hb3 := heap_alloc_new w2 (.map #[] 0)
    have hs3 : (w2.alloc (.map #[] 0)).heap.size = w2.heap.size + 1 := by simp
    generalize hw3 : w2.alloc (.map #[] 0) = w3 at hg3 hb3 hs3
    have hg4 : Grow w3 (w3.alloc (.cells #[vf, vl, u, .map (some w2.heap.size)] 94)) := (Keep.refl _ _).alloc _
    have hb4 := heap_alloc_new w3 (.cells #[vf, vl, u, .map (some w2.heap.size)] 94)
    have hs4 : (w3.alloc (.cells #[vf, vl, u, .map (some w2.heap.size)] 94)).heap.size = w3.heap.size + 1 := by simp
    generalize hw4 : w3.alloc (.cells #[vf, vl, u, .map (some w2.heap.size)] 94) = w4 at hg4 hb4 hs4
    have hp4 := (((hgd.trans hg2).trans hg3).trans hg4).gheap hp
    have hc4 : w4.cell? ⟨p, 3, none⟩ = some (.map (some m)) := by rw [cell_block hp4]; rfl
    simp (maxSteps := 600000) (disch := omega) only [↓sy1, sy2, sy3, readOK, sy5, sy6, Nat.reduceEqDiff, ↓reduceIte, sy7, sy8, sy9, sya, oneOf, syb, syc, Nat.reduceAdd, Nat.reduceMul, syd, sye, syf, syg, syh, reduceCtorEq, hw3, fill_gen, fillF_2 huc (show isCell (.map (some w2.heap.size)) = true from rfl), fillF_fork hvf hvl, Option.map_some, agg4_cells hvf hvl huc (show isCell (.map (some w2.heap.size)) = true from rfl), hw4, hc4]
    have hgall : Grow w w4 := ((hgd.trans hg2).trans hg3).trans hg4
    have hown : w4.ownsRow w.heap.size 28 1 u ts.length ts := own_base (own_grow hu (hg3.trans hg4)) hgd.size
    have hmn := hg4.gheap hb3
    have hq1 : w.heap.size ≤ w3.heap.size := ((hgd.trans hg2).trans hg3).size
    have hmn1 : w.heap.size ≤ w2.heap.size := (hgd.trans hg2).size
    have hqm : w3.heap.size ≠ w2.heap.size := by omega
    generalize w3.heap.size = q at hb4 hq1 hqm ⊢
    generalize w2.heap.size = mn at hb4 hmn hmn1 hqm ⊢
    refine ⟨hg2, hg2.trans hg3, ?_⟩
    refine range_rule (m := m) (by simp only [upd_at, Nat.reduceEqDiff, reduceIte, ev_tmp, ev_const, List.map_cons, List.map_nil]) hunder (hgall.gheap hes) ?_
    have hg45 : Grow w4 (w4.alloc (.mapIter (some m) clk #[] clk)) := (Keep.refl _ _).alloc _
    have hr5 := heap_alloc_new w4 (.mapIter (some m) clk #[] clk)
    have hqlt : q < w4.heap.size := (Array.getElem?_eq_some_iff.1 hb4).1
    have hmnlt : mn < w4.heap.size := (Array.getElem?_eq_some_iff.1 hmn).1
    have hrge := hgall.size
    generalize w4.alloc (.mapIter (some m) clk #[] clk) = w5 at hg45 hr5 ⊢
    generalize w4.heap.size = r at hr5 hqlt hmnlt hrge ⊢
    have hgr := hgall.trans hg45
    have hb5 := hg45.gheap hb4
    have hmn5 := hg45.gheap hmn
    have hown5 := own_grow hown hg45
    simp (maxSteps := 600000) (disch := omega) only [↓sy1, sy2, sy3, readOK, sy5, sy6, Nat.reduceEqDiff, ↓reduceIte, sy7, sy8, sy9, sya, oneOf, syb, syc, Nat.reduceAdd, Nat.reduceMul, syd, sye, syf, syg, syh, reduceCtorEq]
    refine mloop_rule (r := r) (m := m) (clk := clk) (es := es) (fun seen e w' => e 3 = .pointer (some ⟨q, 0, none⟩) ∧ e 31 = .pointer (some ⟨r, 0, none⟩) ∧ Grow w w' ∧ w'.heap[q]? = some (.cells #[vf, vl, u, .map (some mn)] 94 (0, 0)) ∧
        w'.ownsRow w.heap.size 28 1 u ts.length ts ∧ ∃ es2 clk2, w'.heap[mn]? = some (.map es2 clk2) ∧ MapOk es2.toList clk2 ∧ Forked es.toList seen es2.toList)
      hr5 ⟨by simp [upd, updO, ev], by simp [upd, updO, ev], hgr, hb5, hown5, #[], 0, hmn5, ⟨by simp, by simp, by simp⟩, by simp [Forked]⟩ ?_
    rintro seen e w6 hr6 ⟨e3, e31, hg6, hb6, hown6, es2, clk2, hm6, hok2, hfk⟩
    simp (maxSteps := 600000) (disch := omega) only [F49_L0, ↓sy1, sy2, sy3, readOK, sy5, sy6, Nat.reduceEqDiff, ↓reduceIte, sy7, sy8, sy9, sya, oneOf, syb, syc, Nat.reduceAdd, Nat.reduceMul, syd, sye, syf, syg, syh, reduceCtorEq]
    refine next_rule (by simp only [ev_tmp, e31]) hr6 (hg6.gheap hes) hmok (fun hend => ?_) (fun y hy hyn w7 hk7 hr7 => ?_)
    · simp (maxSteps := 600000) (disch := omega) only [↓sy1, sy2, sy3, readOK, sy5, sy6, Nat.reduceEqDiff, ↓reduceIte, sy7, sy8, sy9, sya, oneOf, syb, syc, Nat.reduceAdd, Nat.reduceMul, syd, sye, syf, syg, syh, reduceCtorEq, e3, e31]
      exact R_out ⟨q, _, rfl, hq1, fork_end hok hl h1 h2 h6 hall hhas hmok hg6 hb6 hown6 hm6 hok2 hfk hend hq1 hmn1⟩
    · obtain ⟨n, hyk, us, b, c, hyv, hu1, hu2, hne, _⟩ := hall y hy
      have hcap : (D.wait n).length ≤ c := by
        obtain ⟨b', o', n', c', hv', _, hle, _⟩ | ⟨_, h⟩ := hu1.1
        · rw [hyv] at hv'; cases hv'; exact hle
        · rw [hyv] at h; cases h
      have hwo := D.wait_length n
      have hslc : slcV 1 (some ⟨b, 0, none⟩) (D.wait n).length c none (some (.int .i64 ((D.wait n).length : Int))) (some (.int .i64 ((D.wait n).length : Int))) = some (.slice (some ⟨b, 0, none⟩) (D.wait n).length (D.wait n).length) := by
        rcases slcAll0 (b := b) (n := (D.wait n).length) (c := c) with h | h
        · exact h
        · omega
      have hg7 : Grow w w7 := hg6.then hk7 (fun b hb h => by omega)
      have hb7 := hk7.heap hb6 (by omega)
      have hm7 := hk7.heap hm6 (by omega)
      have hown7 := own_keep hown6 hk7 (fun g hg hgr => by
        obtain ⟨_, ⟨h, _⟩ | ⟨g', cap, cur, hvv, _, hh, _⟩⟩ := hown6
        · rw [h] at hg; cases hg
        · rw [hvv] at hg; cases hg
          have hgr' : g' = r := hgr
          rw [hgr', hr6] at hh; cases hh)
      simp (maxSteps := 600000) (disch := omega) only [↓sy1, sy2, sy3, readOK, sy5, sy6, Nat.reduceEqDiff, ↓reduceIte, sy7, sy8, sy9, sya, oneOf, syb, syc, Nat.reduceAdd, Nat.reduceMul, syd, sye, syf, syg, syh, reduceCtorEq]
      refine entry_rule (by simp only [upd_at, Nat.reduceEqDiff, reduceIte, ev_tmp, ev_const, List.map_cons, List.map_nil, e31]) hr7 (hg7.gheap hes) hmok hy ?_
      simp (maxSteps := 600000) (disch := omega) only [↓sy1, sy2, sy3, readOK, sy5, sy6, Nat.reduceEqDiff, ↓reduceIte, sy7, sy8, sy9, sya, oneOf, syb, syc, Nat.reduceAdd, Nat.reduceMul, syd, sye, syf, syg, syh, reduceCtorEq, hyk]
      refine draw49_1 (fun _ => False) ?_
      have hgd7 : Grow w7 w7.drew := (Keep.refl _ _).drew
      have hg8 := hg7.trans hgd7
      have hb8 := hgd7.gheap hb7
      have hm8 := hgd7.gheap hm7
      have hr8 := hgd7.gheap hr7
      have hown8 := own_grow hown7 hgd7
      generalize w7.drew = w8 at hg8 hb8 hm8 hr8 hown8 ⊢
      have hc8 : w8.cell? ⟨q, 3, none⟩ = some (.map (some mn)) := by rw [cell_block hb8]; rfl
      simp (maxSteps := 600000) (disch := omega) only [PL49_1, ↓sy1, sy2, sy3, readOK, sy5, sy6, Nat.reduceEqDiff, ↓reduceIte, sy7, sy8, sy9, sya, oneOf, syb, syc, Nat.reduceAdd, Nat.reduceMul, syd, sye, syf, syg, syh, reduceCtorEq, e3, e31, hc8, hyv, hslc]
      have hki : IntKeyed .i64 es2.toList := fun z hz => by
        obtain ⟨y', hy', _, hzk, _⟩ := hfk.1 z hz
        obtain ⟨n', hn', _⟩ := hall y' hy'
        exact ⟨_, hzk.trans hn'⟩
      refine put_rule (m := mn) (n := (n : Int)) (v := .slice (some ⟨b, 0, none⟩) (D.wait n).length (D.wait n).length) (by simp only [upd_at, Nat.reduceEqDiff, reduceIte, ev_tmp, ev_const, List.map_cons, List.map_nil]) (by simp only [upd_at, Nat.reduceEqDiff, reduceIte, ev_tmp, ev_const, List.map_cons, List.map_nil]) (by simp only [upd_at, Nat.reduceEqDiff, reduceIte, ev_tmp, ev_const, List.map_cons, List.map_nil]) hunder hint hm8 hki (fun hnone w9 hk9 hm9 => ?_) (fun j z hz hzk w9 hk9 hm9 => ?_)
      · simp (maxSteps := 600000) (disch := omega) only [↓sy1, sy2, sy3, readOK, sy5, sy6, Nat.reduceEqDiff, ↓reduceIte, sy7, sy8, sy9, sya, oneOf, syb, syc, Nat.reduceAdd, Nat.reduceMul, syd, sye, syf, syg, syh, reduceCtorEq]
        have hown9 := own_keep hown8 hk9 (fun g hg hgr => by
          obtain ⟨_, ⟨h, _⟩ | ⟨g', cap, cur, hvv, _, hh, _⟩⟩ := hown8
          · rw [h] at hg; cases hg
          · rw [hvv] at hg; cases hg
            have hgr' : g' = mn := hgr
            rw [hgr', hm8] at hh; cases hh)
        refine R_out (MStep.mk hr6 hy hyn (hk9.heap hr8 (by omega)) ⟨by simp [upd, updO, e3], by simp [upd, updO, e31], hg8.then hk9 (fun b hb h => by omega), hk9.heap hb8 (by omega), hown9, _, _, hm9, hok2.push hnone, hfk.push hmok hy hyk hyv⟩)
      · exfalso
        obtain ⟨y', hy', hys, hzy, _⟩ := hfk.1 z (List.mem_of_getElem? hz)
        have := hmok.uniq hy hy' (by rw [hyk, ← hzk, hzy])
        subst this; exact hyn hys
  · refine call0 (slicesClone_spec vs ts wm ((Has.own h5).grow (hgd.trans hgm)) h6.cell (by omega)) ?_
    rintro u w2 ⟨hu, hg2⟩
    have huc := (Has.own hu).isCell
    have hg4 : Grow w2 (w2.alloc (.cells #[vf, vl, u, .map (some w1.heap.size)] 94)) := (Keep.refl _ _).alloc _
    have hb4 := heap_alloc_new w2 (.cells #[vf, vl, u, .map (some w1.heap.size)] 94)
    have hs4 : (w2.alloc (.cells #[vf, vl, u, .map (some w1.heap.size)] 94)).heap.size = w2.heap.size + 1 := by simp
    generalize hw4 : w2.alloc (.cells #[vf, vl, u, .map (some w1.heap.size)] 94) = w4 at hg4 hb4 hs4
    have hp4 := (((hgd.trans hgm).trans hg2).trans hg4).gheap hp
    have hc4 : w4.cell? ⟨p, 3, none⟩ = some (.map (some m)) := by rw [cell_block hp4]; rfl
    simp (maxSteps := 600000) (disch := omega) only [↓sy1, sy2, sy3, readOK, sy5, sy6, Nat.reduceEqDiff, ↓reduceIte, sy7, sy8, sy9, sya, oneOf, syb, syc, Nat.reduceAdd, Nat.reduceMul, syd, sye, syf, syg, syh, reduceCtorEq, fill_gen, fillF_2 huc (show isCell (.map (some w1.heap.size)) = true from rfl), fillF_fork hvf hvl, Option.map_some, agg4_cells hvf hvl huc (show isCell (.map (some w1.heap.size)) = true from rfl), hw4, hc4]
    have hgall : Grow w w4 := ((hgd.trans hgm).trans hg2).trans hg4
    have hown : w4.ownsRow w.heap.size 28 1 u ts.length ts := own_base (own_grow hu hg4) (hgd.trans hgm).size
    have hmn := (hg2.trans hg4).gheap hbm
    have hq1 : w.heap.size ≤ w2.heap.size := ((hgd.trans hgm).trans hg2).size
    have hmn1 : w.heap.size ≤ w1.heap.size := hgd.size
    have hqm : w2.heap.size ≠ w1.heap.size := by have := hg2.size; omega
    generalize w2.heap.size = q at hb4 hq1 hqm ⊢
    generalize w1.heap.size = mn at hb4 hmn hmn1 hqm ⊢
    refine ⟨hgm.trans hg2, ?_⟩
    refine range_rule (m := m) (by simp only [upd_at, Nat.reduceEqDiff, reduceIte, ev_tmp, ev_const, List.map_cons, List.map_nil]) hunder (hgall.gheap hes) ?_
    have hg45 : Grow w4 (w4.alloc (.mapIter (some m) clk #[] clk)) := (Keep.refl _ _).alloc _
    have hr5 := heap_alloc_new w4 (.mapIter (some m) clk #[] clk)
    have hqlt : q < w4.heap.size := (Array.getElem?_eq_some_iff.1 hb4).1
    have hmnlt : mn < w4.heap.size := (Array.getElem?_eq_some_iff.1 hmn).1
    have hrge := hgall.size
    generalize w4.alloc (.mapIter (some m) clk #[] clk) = w5 at hg45 hr5 ⊢
    generalize w4.heap.size = r at hr5 hqlt hmnlt hrge ⊢
    have hgr := hgall.trans hg45
    have hb5 := hg45.gheap hb4
    have hmn5 := hg45.gheap hmn
    have hown5 := own_grow hown hg45
    simp (maxSteps := 600000) (disch := omega) only [↓sy1, sy2, sy3, readOK, sy5, sy6, Nat.reduceEqDiff, ↓reduceIte, sy7, sy8, sy9, sya, oneOf, syb, syc, Nat.reduceAdd, Nat.reduceMul, syd, sye, syf, syg, syh, reduceCtorEq]
    refine mloop_rule (r := r) (m := m) (clk := clk) (es := es) (fun seen e w' => e 3 = .pointer (some ⟨q, 0, none⟩) ∧ e 31 = .pointer (some ⟨r, 0, none⟩) ∧ Grow w w' ∧ w'.heap[q]? = some (.cells #[vf, vl, u, .map (some mn)] 94 (0, 0)) ∧
        w'.ownsRow w.heap.size 28 1 u ts.length ts ∧ ∃ es2 clk2, w'.heap[mn]? = some (.map es2 clk2) ∧ MapOk es2.toList clk2 ∧ Forked es.toList seen es2.toList)
      hr5 ⟨by simp [upd, updO, ev], by simp [upd, updO, ev], hgr, hb5, hown5, #[], 0, hmn5, ⟨by simp, by simp, by simp⟩, by simp [Forked]⟩ ?_
    rintro seen e w6 hr6 ⟨e3, e31, hg6, hb6, hown6, es2, clk2, hm6, hok2, hfk⟩
    simp (maxSteps := 600000) (disch := omega) only [F49_L0, ↓sy1, sy2, sy3, readOK, sy5, sy6, Nat.reduceEqDiff, ↓reduceIte, sy7, sy8, sy9, sya, oneOf, syb, syc, Nat.reduceAdd, Nat.reduceMul, syd, sye, syf, syg, syh, reduceCtorEq]
    refine next_rule (by simp only [ev_tmp, e31]) hr6 (hg6.gheap hes) hmok (fun hend => ?_) (fun y hy hyn w7 hk7 hr7 => ?_)
    · simp (maxSteps := 600000) (disch := omega) only [↓sy1, sy2, sy3, readOK, sy5, sy6, Nat.reduceEqDiff, ↓reduceIte, sy7, sy8, sy9, sya, oneOf, syb, syc, Nat.reduceAdd, Nat.reduceMul, syd, sye, syf, syg, syh, reduceCtorEq, e3, e31]
      exact R_out ⟨q, _, rfl, hq1, fork_end hok hl h1 h2 h6 hall hhas hmok hg6 hb6 hown6 hm6 hok2 hfk hend hq1 hmn1⟩
    · obtain ⟨n, hyk, us, b, c, hyv, hu1, hu2, hne, _⟩ := hall y hy
      have hcap : (D.wait n).length ≤ c := by
        obtain ⟨b', o', n', c', hv', _, hle, _⟩ | ⟨_, h⟩ := hu1.1
        · rw [hyv] at hv'; cases hv'; exact hle
        · rw [hyv] at h; cases h
      have hwo := D.wait_length n
      have hslc : slcV 1 (some ⟨b, 0, none⟩) (D.wait n).length c none (some (.int .i64 ((D.wait n).length : Int))) (some (.int .i64 ((D.wait n).length : Int))) = some (.slice (some ⟨b, 0, none⟩) (D.wait n).length (D.wait n).length) := by
        rcases slcAll0 (b := b) (n := (D.wait n).length) (c := c) with h | h
        · exact h
        · omega
      have hg7 : Grow w w7 := hg6.then hk7 (fun b hb h => by omega)
      have hb7 := hk7.heap hb6 (by omega)
      have hm7 := hk7.heap hm6 (by omega)
      have hown7 := own_keep hown6 hk7 (fun g hg hgr => by
        obtain ⟨_, ⟨h, _⟩ | ⟨g', cap, cur, hvv, _, hh, _⟩⟩ := hown6
        · rw [h] at hg; cases hg
        · rw [hvv] at hg; cases hg
          have hgr' : g' = r := hgr
          rw [hgr', hr6] at hh; cases hh)
      simp (maxSteps := 600000) (disch := omega) only [↓sy1, sy2, sy3, readOK, sy5, sy6, Nat.reduceEqDiff, ↓reduceIte, sy7, sy8, sy9, sya, oneOf, syb, syc, Nat.reduceAdd, Nat.reduceMul, syd, sye, syf, syg, syh, reduceCtorEq]
      refine entry_rule (by simp only [upd_at, Nat.reduceEqDiff, reduceIte, ev_tmp, ev_const, List.map_cons, List.map_nil, e31]) hr7 (hg7.gheap hes) hmok hy ?_
      simp (maxSteps := 600000) (disch := omega) only [↓sy1, sy2, sy3, readOK, sy5, sy6, Nat.reduceEqDiff, ↓reduceIte, sy7, sy8, sy9, sya, oneOf, syb, syc, Nat.reduceAdd, Nat.reduceMul, syd, sye, syf, syg, syh, reduceCtorEq, hyk]
      refine draw49_1 (fun _ => False) ?_
      have hgd7 : Grow w7 w7.drew := (Keep.refl _ _).drew
      have hg8 := hg7.trans hgd7
      have hb8 := hgd7.gheap hb7
      have hm8 := hgd7.gheap hm7
      have hr8 := hgd7.gheap hr7
      have hown8 := own_grow hown7 hgd7
      generalize w7.drew = w8 at hg8 hb8 hm8 hr8 hown8 ⊢
      have hc8 : w8.cell? ⟨q, 3, none⟩ = some (.map (some mn)) := by rw [cell_block hb8]; rfl
      simp (maxSteps := 600000) (disch := omega) only [PL49_1, ↓sy1, sy2, sy3, readOK, sy5, sy6, Nat.reduceEqDiff, ↓reduceIte, sy7, sy8, sy9, sya, oneOf, syb, syc, Nat.reduceAdd, Nat.reduceMul, syd, sye, syf, syg, syh, reduceCtorEq, e3, e31, hc8, hyv, hslc]
      have hki : IntKeyed .i64 es2.toList := fun z hz => by
        obtain ⟨y', hy', _, hzk, _⟩ := hfk.1 z hz
        obtain ⟨n', hn', _⟩ := hall y' hy'
        exact ⟨_, hzk.trans hn'⟩
      refine put_rule (m := mn) (n := (n : Int)) (v := .slice (some ⟨b, 0, none⟩) (D.wait n).length (D.wait n).length) (by simp only [upd_at, Nat.reduceEqDiff, reduceIte, ev_tmp, ev_const, List.map_cons, List.map_nil]) (by simp only [upd_at, Nat.reduceEqDiff, reduceIte, ev_tmp, ev_const, List.map_cons, List.map_nil]) (by simp only [upd_at, Nat.reduceEqDiff, reduceIte, ev_tmp, ev_const, List.map_cons, List.map_nil]) hunder hint hm8 hki (fun hnone w9 hk9 hm9 => ?_) (fun j z hz hzk w9 hk9 hm9 => ?_)
      · simp (maxSteps := 600000) (disch := omega) only [↓sy1, sy2, sy3, readOK, sy5, sy6, Nat.reduceEqDiff, ↓reduceIte, sy7, sy8, sy9, sya, oneOf, syb, syc, Nat.reduceAdd, Nat.reduceMul, syd, sye, syf, syg, syh, reduceCtorEq]
        have hown9 := own_keep hown8 hk9 (fun g hg hgr => by
          obtain ⟨_, ⟨h, _⟩ | ⟨g', cap, cur, hvv, _, hh, _⟩⟩ := hown8
          · rw [h] at hg; cases hg
          · rw [hvv] at hg; cases hg
            have hgr' : g' = mn := hgr
            rw [hgr', hm8] at hh; cases hh)
        refine R_out (MStep.mk hr6 hy hyn (hk9.heap hr8 (by omega)) ⟨by simp [upd, updO, e3], by simp [upd, updO, e31], hg8.then hk9 (fun b hb h => by omega), hk9.heap hb8 (by omega), hown9, _, _, hm9, hok2.push hnone, hfk.push hmok hy hyk hyv⟩)
      · exfalso
        obtain ⟨y', hy', hys, hzy, _⟩ := hfk.1 z (List.mem_of_getElem? hz)
        have := hmok.uniq hy hy' (by rw [hyk, ← hzk, hzy])
        subst this; exact hyn hys
end Go.Proofs.Ytneehlkofcdhoaa
