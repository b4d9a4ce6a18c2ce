/- The disk: what is done. -/
import Derived.Test.YtneehlkofcdhoaaDi
namespace Go.Proofs.Ytneehlkofcdhoaa
open Go
set_option linter.unusedSimpArgs false
open Go.RowKit (intOf)
theorem elemO : ElemIs Try.prog 89 127 1 16 .nilIface := elem_of (by kernel_rfl)
/-- A store into a cell of a block. -/
theorem cell_store {w : World} {p i : Nat} {cs : Array Value} {t : TypeId} (h : w.heap[p]? = some (.cells cs t (0, 0))) (hi : i < cs.size) {u : Value} (hu : isCell u = true) :
    ∃ w', stF w (.pointer (some ⟨p, i, none⟩)) u = some (undef, w') ∧ w'.heap[p]? = some (.cells (cs.setIfInBounds i u) t (0, 0)) ∧ Keep (fun b => b = p) w w' := by
  have hc : w.cell? ⟨p, i, none⟩ = some cs[i] := by rw [cell_block h]; exact Array.getElem?_eq_getElem hi
  refine ⟨w.setCell ⟨p, i, none⟩ u, stF_p hu hc (frozen_block h i), ?_, (Keep.refl _ _).setCell u (fun _ => rfl)⟩
  have hg : p < w.heap.size := (Array.getElem?_eq_some_iff.1 h).1
  simp only [World.setCell, Array.getElem?_modify, if_pos rfl, h, Option.map_some]
  simp
section
variable {K : Nat → Prop} {G G' : Gh} {κ : Nat} {w w' : World}
theorem SafeAt.stand {v : Value} {ls : List (List UInt8)} (h : SafeAt G κ w v ls) (hx : Ext K G w G' w') (hs : ∀ b c, w.heap[b]? = some (.cells c 28 (0, 0)) → G.own b = κ → G.fix b = 0 → w'.heap[b]? = w.heap[b]? ∧ G'.fix b = 0) : SafeAt G' κ w' v ls := by
  obtain ⟨sb', c', h1', h2', h3', h4'⟩ := h.at
  obtain ⟨h6, h7⟩ := hs sb' c' h2' h3' h4'
  obtain ⟨us, sb, h1, h2, h3, h4, h5⟩ := h
  rw [h1] at h1'; cases h1'
  refine ⟨us, sb', h1, ?_, h3.ext hx, by rw [hx.own sb' (Array.getElem?_eq_some_iff.1 h2').1]; exact h4, h7⟩
  obtain ⟨h10, h | ⟨g, cap, cur, hv, h11, h12, h13⟩⟩ := h2
  · exact ⟨h10, .inl h⟩
  · refine ⟨h10, .inr ⟨g, cap, cur, hv, h11, ?_, h13⟩⟩
    rw [hv] at h1; cases h1
    rw [h6]; exact h12
theorem WaitAt.stand {m : Nat} {q : Nat → List (List UInt8)} (h : WaitAt G κ w m q) (hx : Ext K G w G' w') (hm : w'.heap[m]? = w.heap[m]?) (hs : ∀ b c, w.heap[b]? = some (.cells c 28 (0, 0)) → G.own b = κ → 0 < G.fix b → w'.heap[b]? = w.heap[b]? ∧ G'.fix b = G.fix b) : WaitAt G' κ w' m q := by
  obtain ⟨es, clk, h1, h2, h3, h4, h5, h6⟩ := h
  refine ⟨es, clk, hm.trans h1, by rw [hx.own m (hx.lt h1)]; exact h2, h3, fun y hy => ?_, h5, h6⟩
  obtain ⟨n, h7, h8⟩ := h4 y hy
  refine ⟨n, h7, h8.keep hx (fun b hb => ?_)⟩
  obtain ⟨h9, h10, h11, h12, c, h13⟩ := h8.spare hb
  exact hs b c h13 h10 (by omega)
end
/-- Behind the note of an operation: the disk's block is new, all else stands. -/
theorem note_rule {G : Gh} {κ : Nat} {w : World} {p : Nat} {D : Dsk} {o : DOp} {vo : Value} {Φ : Value → World → Prop} (h : DiskAt G κ w p D) (ho : OpF G w vo o) (hl : D.ops.length < 1000000)
    (next : ∀ (w' : World) (G' : Gh) (e : Env) (vf vl vs : Value) (m : Nat), e 0 = .pointer (some ⟨p, 0, none⟩) → e 1 = vo → Ext (fun c => c = κ) G w G' w' → w'.heap[p]? = some (.cells #[vf, vl, vs, .map (some m)] 94 (0, 0)) → G'.own p = κ → G'.fix p = 0 → RowsAt G' w' vf D.first → OpsAt G' w' vl (D.ops ++ [o]) → SafeAt G' κ w' vs D.safe → WaitAt G' κ w' m D.wait →
      R (symS 33 Try.prog (.raw (rawOf Try.f76 1)) ⟨fun e w => Φ (.tuple #[]) w, fun _ _ _ => False, fun e w => Φ (.tuple #[]) w, NoPanic⟩ e w')) :
    Calls Try.prog 76 #[.pointer (some ⟨p, 0, none⟩), vo] w (Ret Φ) := by
  obtain ⟨hok, hl', vf, vl, vs, m, hp, hown, hf, h1, ⟨xs, h2, h2'⟩, hs, hw⟩ := h
  apply enter76
  apply R_in
  simp (maxSteps := 600000) (disch := omega) only [F76, ↓sy1, sy2, sy3, readOK, sy5, sy6, Nat.reduceEqDiff, ↓reduceIte, sy7, sy8, sy9, sya, oneOf, syb, syc, Nat.reduceAdd, Nat.reduceMul, syd, sye, syf, syg, syh, reduceCtorEq]
  have hoc := ho.cell
  refine draw76_0 (fun _ => False) ?_
  have hgd : Grow w w.drew := (Keep.refl _ _).drew
  have hx0 : Ext (fun c => c = κ) G w G w.drew := .grow hgd
  have hp0 : w.drew.heap[p]? = _ := hp
  have hpl := (Array.getElem?_eq_some_iff.1 hp).1
  have h10 := h1.ext (κ := fun _ => False) (.grow hgd)
  have h20 := h2.ext (κ := fun _ => False) (.grow hgd)
  have h20' := h2'.ext (κ := fun _ => False) (.grow hgd)
  have hs0 := hs.ext (K := fun _ => False) (.grow hgd) id
  have hw0 := hw.ext (K := fun _ => False) (.grow hgd) id
  have ho0 := ho.ext (κ := fun _ => False) (.grow hgd)
  have hgs := hgd.size
  generalize w.drew = w0 at hgd hx0 hp0 h10 h20 h20' hs0 hw0 ho0 hgs ⊢
  have hc1 : w0.cell? ⟨p, 1, none⟩ = some vl := by rw [cell_block hp0]; rfl
  obtain ⟨v', hslc, hv', hfull, _⟩ := h20.1.slcAll
  have hlen := h20'.length
  simp (maxSteps := 600000) (disch := omega) only [PL76_0, ↓sy1, sy2, sy3, readOK, sy5, sy6, Nat.reduceEqDiff, ↓reduceIte, sy7, sy8, sy9, sya, oneOf, syb, syc, Nat.reduceAdd, Nat.reduceMul, syd, sye, syf, syg, syh, reduceCtorEq, hc1, h20.1.len, hslc, oneF_cell hoc]
  have hg1 : Grow w0 (w0.alloc (.cells #[vo] 127)) := (Keep.refl _ _).alloc _
  have hsrc : Has 1 (w0.alloc (.cells #[vo] 127)) (.slice (some ⟨w0.heap.size, 0, none⟩) 1 1) [vo] := Has.new1
  generalize w0.alloc (.cells #[vo] 127) = w1 at hg1 hsrc ⊢
  refine ⟨hg1, ?_⟩
  refine app_full elemO (by simp only [upd_at, Nat.reduceEqDiff, reduceIte, ev_tmp, ev_const, List.map_cons, List.map_nil]) (by simp only [upd_at, Nat.reduceEqDiff, reduceIte, ev_tmp, ev_const, List.map_cons, List.map_nil]) (hv'.grow hg1) hfull hsrc hoc (by omega) (by omega) ?_
  intro c w2 hg2 hown2
  have hx1 : Ext (fun _ => False) G w0 (G.at w1.heap.size κ (xs.length + 1)) w2 := (Ext.grow hg1).trans (.fresh hg2 (Nat.le_refl _))
  have hpw : p < w1.heap.size := Nat.lt_of_lt_of_le (Nat.lt_of_lt_of_le hpl hgs) hg1.size
  have hp2 := hg2.gheap (hg1.gheap hp0)
  obtain ⟨w3, hst, hp3, hk3⟩ := cell_store hp2 (i := 1) (by simp) (u := .slice (some ⟨w1.heap.size, 0, none⟩) (xs.length + 1) c) rfl
  have hcap2 := (Has.own hown2).isCell
  simp (maxSteps := 600000) (disch := omega) only [↓sy1, sy2, sy3, readOK, sy5, sy6, Nat.reduceEqDiff, ↓reduceIte, sy7, sy8, sy9, sya, oneOf, syb, syc, Nat.reduceAdd, Nat.reduceMul, syd, sye, syf, syg, syh, reduceCtorEq, hst]
  have hx3 : Ext (fun c => c = κ) (G.at w1.heap.size κ (xs.length + 1)) w2 (G.at w1.heap.size κ (xs.length + 1)) w3 := .on0 hk3 (by rw [Gh.at_own' (by omega)]; exact hown) (by rw [Gh.at_fix' (by omega)]; exact hf)
  have hne : ∀ b cc, w2.heap[b]? = some (Obj.cells cc 28 (0, 0)) → w3.heap[b]? = w2.heap[b]? := fun b cc hb => hk3.blk b (Array.getElem?_eq_some_iff.1 hb).1 (fun hc => by rw [hc, hp2] at hb; simp at hb)
  have hmm : ∀ mm q, WaitAt (G.at w1.heap.size κ (xs.length + 1)) κ w2 mm q → w3.heap[mm]? = w2.heap[mm]? := fun mm q h => by
    obtain ⟨es, clk, h, _⟩ := h
    exact hk3.blk mm (Array.getElem?_eq_some_iff.1 h).1 (fun hc => by rw [hc, hp2] at h; cases h)
  have hw2 := hw0.ext hx1 id
  refine R_in (next w3 (G.at w1.heap.size κ (xs.length + 1)) _ vf (.slice (some ⟨w1.heap.size, 0, none⟩) (xs.length + 1) c) vs m (by simp [upd]) (by simp [upd]) ((hx0.trans (hx1.mono (fun _ h => h.elim))).trans hx3) (by simpa using hp3) (by rw [Gh.at_own' (by omega)]; exact hown) (by rw [Gh.at_fix' (by omega)]; exact hf)
    ((h10.ext hx1).ext hx3) ⟨xs ++ [vo], ⟨?_, fun b o l c' hv _ => ?_⟩, ((h20'.ext hx1).snoc (ho0.ext hx1)).ext hx3⟩ ((hs0.ext hx1 id).stand hx3 (fun b cc hb _ hf => ⟨hne b cc hb, hf⟩)) (hw2.stand hx3 (hmm _ _ hw2) (fun b cc hb _ _ => ⟨hne b cc hb, rfl⟩)))
  · exact (Has.own hown2).keep hk3 (fun b hb _ hbp => by
      cases hb
      have : w1.heap.size = p := hbp
      omega)
  · cases hv; rw [Gh.at_fix]; simp
theorem methW : methFn Try.prog 111 "dunnage/disk.on" = some 130 := by kernel_rfl
theorem methF : methFn Try.prog 113 "dunnage/disk.on" = some 131 := by kernel_rfl
theorem doWrite_spec {G : Gh} {κ : Nat} {w : World} {p n : Nat} {D : Dsk} {u : Value} {b : List UInt8} (h : DiskAt G κ w p D) (hn : n < D.first.length) (hb : b.length = 512) (hu : HasFB G w u b) (hl : D.ops.length < 1000000) :
    Calls Try.prog 76 #[.pointer (some ⟨p, 0, none⟩), .iface 111 (.agg #[.int .i64 n, u])] w (Ret fun _ w' => ∃ G', DiskAt G' κ w' p (D.add (.wr n b)) ∧ Ext (fun c => c = κ) G w G' w') := by
  have hok := h.ok
  have hplt := h.lt
  refine note_rule (o := .wr n b) h ⟨u, rfl, hu⟩ hl ?_
  intro w1 G1 e vf vl vs m he0 he1 hx hp hown hf h1 h2 hs hw
  refine draw76_1 (fun _ => False) ?_
  have hgd : Grow w1 w1.drew := (Keep.refl _ _).drew
  have hnm := nilF_m (c := #[]) (nilM_ok methW (.agg #[.int .i64 n, u]))
  simp (maxSteps := 600000) (disch := omega) only [PL76_1, ↓sy1, sy2, sy3, readOK, sy5, sy6, Nat.reduceEqDiff, ↓reduceIte, sy7, sy8, sy9, sya, oneOf, syb, syc, Nat.reduceAdd, Nat.reduceMul, syd, sye, syf, syg, syh, reduceCtorEq, he0, he1, hnm]
  have hx0 : Ext (fun c => c = κ) G1 w1 G1 w1.drew := .grow hgd
  have hu1 := (hu.ext hx).ext hx0
  have hq := D.wait_length n
  refine invoke_rule (u := .agg #[.int .i64 n, u]) (vs := [.pointer (some ⟨p, 2, none⟩)]) methW (by simp only [upd_at, Nat.reduceEqDiff, reduceIte, ev_tmp, ev_const, List.map_cons, List.map_nil]) (by simp only [upd_at, Nat.reduceEqDiff, reduceIte, ev_tmp, ev_const, List.map_cons, List.map_nil]) (onWrite_spec (n := n) (u := u) (hgd.gheap hp) (hw.ext (K := fun _ => False) (.grow hgd) id) hu1 (by omega)) ?_
  rintro v w2 ⟨_, G2, hw2, hx2, hst⟩
  obtain ⟨es, clk, hes, _⟩ := hw
  have hpm : p ≠ m := fun hc => by rw [hc, hes] at hp; cases hp
  obtain ⟨hp2, hf2⟩ := hst p (Nat.lt_of_lt_of_le hplt (hx.trans hx0).size) hf hpm
  refine R_out ⟨G2, ⟨hok.wr hn hb, by simp [Dsk.add]; omega, vf, vl, vs, m, hp2.trans (hgd.gheap hp), by rw [hx2.own p (Nat.lt_of_lt_of_le hplt (hx.trans hx0).size)]; exact hown, hf2, (h1.ext hx0).ext hx2, (h2.ext hx0).ext hx2, ?_, ?_⟩, (hx.trans hx0).trans hx2⟩
  · rw [D.safe_wr]
    refine (hs.ext (K := fun _ => False) (.grow hgd) id).stand hx2 (fun bb cc hb _ hf => hst bb (Array.getElem?_eq_some_iff.1 hb).1 hf (fun hc => ?_))
    rw [hc, hgd.gheap hes] at hb; cases hb
  · rw [D.wait_wr]; exact hw2
theorem doFlush_spec {G : Gh} {κ : Nat} {w : World} {p : Nat} {D : Dsk} (h : DiskAt G κ w p D) (hl : D.ops.length < 1000000) :
    Calls Try.prog 76 #[.pointer (some ⟨p, 0, none⟩), .iface 113 (.agg #[])] w (Ret fun _ w' => ∃ G', DiskAt G' κ w' p (D.add .fl) ∧ Ext (fun c => c = κ) G w G' w') := by
  have hok := h.ok
  have hplt := h.lt
  refine note_rule (o := .fl) h rfl hl ?_
  intro w1 G1 e vf vl vs m he0 he1 hx hp hown hf h1 h2 hs hw
  refine draw76_1 (fun _ => False) ?_
  have hgd : Grow w1 w1.drew := (Keep.refl _ _).drew
  have hnm := nilF_m (c := #[]) (nilM_ok methF (.agg #[]))
  simp (maxSteps := 600000) (disch := omega) only [PL76_1, ↓sy1, sy2, sy3, readOK, sy5, sy6, Nat.reduceEqDiff, ↓reduceIte, sy7, sy8, sy9, sya, oneOf, syb, syc, Nat.reduceAdd, Nat.reduceMul, syd, sye, syf, syg, syh, reduceCtorEq, he0, he1, hnm]
  have hx0 : Ext (fun c => c = κ) G1 w1 G1 w1.drew := .grow hgd
  refine invoke_rule (vs := [.pointer (some ⟨p, 2, none⟩)]) methF (by simp only [upd_at, Nat.reduceEqDiff, reduceIte, ev_tmp, ev_const, List.map_cons, List.map_nil]) (by simp only [upd_at, Nat.reduceEqDiff, reduceIte, ev_tmp, ev_const, List.map_cons, List.map_nil]) (onFlush_spec (hgd.gheap hp) (hw.ext (K := fun _ => False) (.grow hgd) id) (hs.ext (K := fun _ => False) (.grow hgd) id) (fun n hn => by rw [D.safe_length]; exact hok.waits hn) (fun n => by have := D.wait_length n; omega)) ?_
  rintro v w2 ⟨_, hw2, hs2, hx2, hp2⟩
  refine R_out ⟨G1, ⟨hok.fl, by simp [Dsk.add]; omega, vf, vl, vs, m, hp2, hown, hf, (h1.ext hx0).ext hx2, (h2.ext hx0).ext hx2, ?_, ?_⟩, (hx.trans hx0).trans hx2⟩
  · rw [D.safe_fl]; exact hs2
  · rw [D.wait_fl]; exact hw2
/-- A write that is taken. -/
theorem write_spec {G : Gh} {κ : Nat} {w : World} {p n : Nat} {D : Dsk} {u : Value} {b : List UInt8} (h : DiskAt G κ w p D) (hn : n < D.first.length) (hb : b.length = 512) (hu : HasB w u b) (hl : D.ops.length < 1000000) :
    Calls Try.prog 43 #[.pointer (some ⟨p, 0, none⟩), .int .i64 n, u] w (Ret fun v w' => v = .int .i64 0 ∧ ∃ G', DiskAt G' κ w' p (D.add (.wr n b)) ∧ Ext (fun c => c = κ) G w G' w') := by
  obtain ⟨hok, hl', vf, vl, vs, m, hp, ho, hf, h1, h2, hs, hw⟩ := id h
  have hc0 : w.cell? ⟨p, 0, none⟩ = some vf := by rw [cell_block hp]; rfl
  apply enter43
  apply R_in
  simp (maxSteps := 600000) (disch := omega) only [F43, ↓sy1, sy2, sy3, readOK, sy5, sy6, Nat.reduceEqDiff, ↓reduceIte, sy7, sy8, sy9, sya, oneOf, syb, syc, Nat.reduceAdd, Nat.reduceMul, syd, sye, syf, syg, syh, reduceCtorEq, hc0, h1.has.len, hu.lenB, hb, show ¬ ((n : Int) < 0) from by omega, show ¬ ((D.first.length : Int) ≤ n) from by omega, show ((512 : Nat) : Int) = 512 from rfl, decide_false, decide_true]
  refine call0 (bytesClone_spec u _ w hu (by omega)) ?_
  rintro v w1 ⟨hv, hg⟩
  have hvc := (Has.own hv).isCell
  simp (maxSteps := 600000) (disch := omega) only [↓sy1, sy2, sy3, readOK, sy5, sy6, Nat.reduceEqDiff, ↓reduceIte, sy7, sy8, sy9, sya, oneOf, syb, syc, Nat.reduceAdd, Nat.reduceMul, syd, sye, syf, syg, syh, reduceCtorEq, fill_gen, fillF_2 (show isCell (.int .i64 n) = true from rfl) hvc]
  have hx : Ext (fun _ => False) G w (G.upto w.heap.size (fun _ => 0) (fun _ => maxLen)) w1 := .upto hg _ _
  have hvf : HasFB (G.upto w.heap.size (fun _ => 0) (fun _ => maxLen)) w1 v b := by
    refine ⟨Has.own hv, fun bb o l c hvv _ => ?_⟩
    obtain ⟨hl2, ⟨h, _⟩ | ⟨g, cap, cur, h, hB, _, hcc, hm, _⟩⟩ := hv
    · rw [h] at hvv; cases hvv
    · rw [h] at hvv; cases hvv
      simp [Gh.upto, Nat.not_lt.2 hB]; rw [bs_length]; omega
  refine call0 (doWrite_spec (h.ext hx id) hn hb hvf hl) ?_
  rintro v2 w2 ⟨G2, hd, hx2⟩
  simp (maxSteps := 600000) (disch := omega) only [↓sy1, sy2, sy3, readOK, sy5, sy6, Nat.reduceEqDiff, ↓reduceIte, sy7, sy8, sy9, sya, oneOf, syb, syc, Nat.reduceAdd, Nat.reduceMul, syd, sye, syf, syg, syh, reduceCtorEq]
  exact R_out ⟨G2, hd, (hx.mono (fun _ h => h.elim)).trans hx2⟩
/-- A write that is refused. -/
theorem write_bad {G : Gh} {κ : Nat} {w : World} {p : Nat} {n : Int} {D : Dsk} {u : Value} {b : List UInt8} (h : DiskAt G κ w p D) (hu : HasB w u b) :
    (n < 0 ∨ D.first.length ≤ n → Calls Try.prog 43 #[.pointer (some ⟨p, 0, none⟩), .int .i64 n, u] w (Ret fun v w' => v = .int .i64 2 ∧ w' = w)) ∧
    (0 ≤ n → n < D.first.length → b.length ≠ 512 → Calls Try.prog 43 #[.pointer (some ⟨p, 0, none⟩), .int .i64 n, u] w (Ret fun v w' => v = .int .i64 3 ∧ w' = w)) := by
  obtain ⟨hok, hl', vf, vl, vs, m, hp, ho, hf, h1, h2, hs, hw⟩ := h
  have hc0 : w.cell? ⟨p, 0, none⟩ = some vf := by rw [cell_block hp]; rfl
  refine ⟨fun hn => ?_, fun hn0 hn1 hb => ?_⟩
  · apply enter43
    apply R_in
    by_cases h0 : n < 0
    · simp (maxSteps := 600000) (disch := omega) only [F43, ↓sy1, sy2, sy3, readOK, sy5, sy6, Nat.reduceEqDiff, ↓reduceIte, sy7, sy8, sy9, sya, oneOf, syb, syc, Nat.reduceAdd, Nat.reduceMul, syd, sye, syf, syg, syh, reduceCtorEq, h0, decide_true]
      exact R_out trivial
    · simp (maxSteps := 600000) (disch := omega) only [F43, ↓sy1, sy2, sy3, readOK, sy5, sy6, Nat.reduceEqDiff, ↓reduceIte, sy7, sy8, sy9, sya, oneOf, syb, syc, Nat.reduceAdd, Nat.reduceMul, syd, sye, syf, syg, syh, reduceCtorEq, hc0, h1.has.len, h0, show ((D.first.length : Int) ≤ n) from by omega, decide_false, decide_true]
      exact R_out trivial
  · apply enter43
    apply R_in
    simp (maxSteps := 600000) (disch := omega) only [F43, ↓sy1, sy2, sy3, readOK, sy5, sy6, Nat.reduceEqDiff, ↓reduceIte, sy7, sy8, sy9, sya, oneOf, syb, syc, Nat.reduceAdd, Nat.reduceMul, syd, sye, syf, syg, syh, reduceCtorEq, hc0, h1.has.len, hu.lenB, show ¬ (n < 0) from by omega, show ¬ ((D.first.length : Int) ≤ n) from by omega, show ¬ ((b.length : Int) = 512) from by omega, decide_false]
    exact R_out trivial
theorem flush_spec {G : Gh} {κ : Nat} {w : World} {p : Nat} {D : Dsk} (h : DiskAt G κ w p D) (hl : D.ops.length < 1000000) :
    Calls Try.prog 44 #[.pointer (some ⟨p, 0, none⟩)] w (Ret fun v w' => v = .int .i64 0 ∧ ∃ G', DiskAt G' κ w' p (D.add .fl) ∧ Ext (fun c => c = κ) G w G' w') := by
  apply enter44
  apply R_in
  simp (maxSteps := 600000) (disch := omega) only [F44, ↓sy1, sy2, sy3, readOK, sy5, sy6, Nat.reduceEqDiff, ↓reduceIte, sy7, sy8, sy9, sya, oneOf, syb, syc, Nat.reduceAdd, Nat.reduceMul, syd, sye, syf, syg, syh, reduceCtorEq]
  refine call0 (doFlush_spec h hl) ?_
  rintro v2 w2 ⟨G2, hd, hx2⟩
  simp (maxSteps := 600000) (disch := omega) only [↓sy1, sy2, sy3, readOK, sy5, sy6, Nat.reduceEqDiff, ↓reduceIte, sy7, sy8, sy9, sya, oneOf, syb, syc, Nat.reduceAdd, Nat.reduceMul, syd, sye, syf, syg, syh, reduceCtorEq]
  exact R_out ⟨G2, hd, hx2⟩
end Go.Proofs.Ytneehlkofcdhoaa
