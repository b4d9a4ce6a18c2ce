/- The disk as it stood. -/
import Derived.Test.YtneehlkofcdhoaaRr
namespace Go.Proofs.Ytneehlkofcdhoaa
open Go
set_option linter.unusedSimpArgs false
open Go.RowKit (intOf)
theorem cut_bad {G : Gh} {κ : Nat} {w : World} {p : Nat} {n : Int} {D : Dsk} (h : DiskAt G κ w p D) (hn : n < 0 ∨ D.ops.length < n) :
    Calls Try.prog 68 #[.pointer (some ⟨p, 0, none⟩), .int .i64 n] w (Ret fun v w' => v = .tuple #[.pointer none, .int .i64 2] ∧ w' = w) := by
  obtain ⟨hok, hl, vf, vl, vs, m, hp, ho, hf, h1, h2, hs, hw⟩ := h
  have hc1 : w.cell? ⟨p, 1, none⟩ = some vl := by rw [cell_block hp]; rfl
  apply enter68
  apply R_in
  by_cases h0 : n < 0
  · simp (maxSteps := 600000) (disch := omega) only [F68, ↓sy1, sy2, sy3, readOK, sy5, sy6, Nat.reduceEqDiff, ↓reduceIte, sy7, sy8, sy9, sya, oneOf, syb, syc, Nat.reduceAdd, Nat.reduceMul, syd, sye, syf, syg, syh, reduceCtorEq, h0, decide_true]
    exact R_out trivial
  · simp (maxSteps := 600000) (disch := omega) only [F68, ↓sy1, sy2, sy3, readOK, sy5, sy6, Nat.reduceEqDiff, ↓reduceIte, sy7, sy8, sy9, sya, oneOf, syb, syc, Nat.reduceAdd, Nat.reduceMul, syd, sye, syf, syg, syh, reduceCtorEq, h0, hc1, h2.len, show ((D.ops.length : Int) < n) from by omega, decide_true, decide_false]
    exact R_out trivial
theorem own_fix1 {B : Nat} {t : TypeId} {w : World} {u : Value} {n : Nat} {xs : List Value} {G : Gh} (ho : w.ownsRow B t 1 u n xs) (hG : ∀ b, u.ownBlock = some b → maxLen ≤ G.fix b) : HasF G w u xs := by
  refine ⟨Has.own ho, fun b o l c hv _ => ?_⟩
  obtain ⟨hl, ⟨rfl, _⟩ | ⟨g, cap, cur, rfl, hB, _, hc, hm, _⟩⟩ := ho
  · cases hv
  · cases hv
    have := hG b rfl; omega
theorem OpsF.take {G : Gh} {w : World} : ∀ {vs : List Value} {os : List DOp} (k : Nat), OpsF G w vs os → OpsF G w (vs.take k) (os.take k)
  | [], [], k, _ => by simp [OpsF]
  | _ :: _, _ :: _, 0, _ => by simp [OpsF]
  | _ :: _, _ :: _, k + 1, ⟨h1, h2⟩ => ⟨h1, OpsF.take k h2⟩
theorem Dsk.cut_ops (D : Dsk) (i : Nat) : (D.cut i).ops.length ≤ D.ops.length := by simp [Dsk.cut]; omega
theorem begun2_spec {G : Gh} (κ : Nat) {w : World} {v : Value} {ls : List (List UInt8)} (h : RowsAt G w v ls) (hok : (⟨ls, []⟩ : Dsk).Ok) :
    Calls Try.prog 71 #[v] w (Ret fun r w' => ∃ p G', r = .pointer (some ⟨p, 0, none⟩) ∧ w.heap.size ≤ p ∧ DiskAt G' κ w' p ⟨ls, []⟩ ∧ Ext0 G w G' w' ∧ w'.cell? ⟨p, 1, none⟩ = some (.slice none 0 0)) := by
  obtain ⟨vs, hv, hr⟩ := h
  have hlen := hr.length
  have hmost := hok.most
  simp only at hmost
  apply enter71
  apply R_in
  simp (maxSteps := 600000) (disch := omega) only [F71, ↓sy1, sy2, sy3, readOK, sy5, sy6, Nat.reduceEqDiff, ↓reduceIte, sy7, sy8, sy9, sya, oneOf, syb, syc, Nat.reduceAdd, Nat.reduceMul, syd, sye, syf, syg, syh, reduceCtorEq]
  refine call0 (slicesClone_spec v vs w hv.1 hr.cell (by omega)) ?_
  rintro u w1 ⟨ho, hg⟩
  have huc := (Has.own ho).isCell
  have hvc := hv.1.isCell
  simp (maxSteps := 600000) (disch := omega) only [↓sy1, sy2, sy3, readOK, sy5, sy6, Nat.reduceEqDiff, ↓reduceIte, sy7, sy8, sy9, sya, oneOf, syb, syc, Nat.reduceAdd, Nat.reduceMul, syd, sye, syf, syg, syh, reduceCtorEq, fill_gen, fillF_2 huc (show isCell (.map (some w1.heap.size)) = true from rfl), fillF_disk hvc]
  have hg1 : Grow w1 (w1.alloc (.map #[] 0)) := (Keep.refl _ _).alloc _
  have hm := heap_alloc_new w1 (.map #[] 0)
  have hs1 : (w1.alloc (.map #[] 0)).heap.size = w1.heap.size + 1 := by simp
  generalize w1.alloc (.map #[] 0) = w2 at hg1 hm hs1 ⊢
  have hg2 : Grow w2 (w2.alloc (.cells (Value.agg #[v, .slice none 0 0, u, .map (some w1.heap.size)]).cells 94)) := (Keep.refl _ _).alloc _
  have hp := heap_alloc_new w2 (.cells (Value.agg #[v, .slice none 0 0, u, .map (some w1.heap.size)]).cells 94)
  generalize w2.alloc (.cells (Value.agg #[v, .slice none 0 0, u, .map (some w1.heap.size)]).cells 94) = w3 at hg2 hp ⊢
  have hgw : Grow w w3 := (hg.trans hg1).trans hg2
  have hx : Ext0 G w (G.upto w.heap.size (fun _ => κ) (fun _ => 0)) w3 := .upto hgw _ _
  have hge := hg.size
  have hge2 := hg1.size
  have hno : ∀ b, w.heap.size ≤ b → (G.upto w.heap.size (fun _ => κ) (fun _ => 0)).own b = κ ∧ (G.upto w.heap.size (fun _ => κ) (fun _ => 0)).fix b = 0 := fun b hb => by simp [Gh.upto, Nat.not_lt.2 hb]
  refine R_out ⟨w2.heap.size, _, rfl, by omega, ⟨hok, by simp, v, .slice none 0 0, u, w1.heap.size, hp, (hno _ (by omega)).1, (hno _ (by omega)).2, ⟨vs, hv.ext hx, hr.ext hx⟩, ⟨[], HasF.nil _ _, trivial⟩, ?_, ?_⟩, hx, by rw [cell_block hp]; rfl⟩
  · have ho3 := own_grow (ho) (hg1.trans hg2)
    obtain ⟨_, ⟨hn, hz⟩ | ⟨g, cap, cur, hu, hB, _⟩⟩ := id ho3
    · have := hok.some; simp only at this; omega
    · exact ⟨vs, g, by rw [hu]; rfl, by rw [Dsk.safe_new, ← hlen]; exact own_base ho3 (Nat.zero_le _), hr.ext hx, (hno g hB).1, (hno g hB).2⟩
  · exact ⟨#[], 0, hg2.gheap hm, (hno _ (by omega)).1, ⟨by simp, by simp, by simp⟩, by simp, fun n hn => absurd rfl hn, by simp⟩
theorem cut_spec {G : Gh} {κ : Nat} {w : World} {p k : Nat} {D : Dsk} (κ' μ : Nat) (hκ : κ' ≠ μ) (h : DiskAt G κ w p D) (hk : k ≤ D.ops.length) :
    Calls Try.prog 68 #[.pointer (some ⟨p, 0, none⟩), .int .i64 k] w (Ret fun v w' => ∃ q G', v = .tuple #[.pointer (some ⟨q, 0, none⟩), .int .i64 0] ∧ w.heap.size ≤ q ∧ DiskAt G' κ' w' q (D.cut k) ∧ Ext (fun c => c = κ' ∨ c = μ) G w G' w') := by
  obtain ⟨hok, hl, vf, vl, vs, m, hp, ho, hf, h1, ⟨xs, h2, h3⟩, hs, hw⟩ := h
  have hc0 : w.cell? ⟨p, 0, none⟩ = some vf := by rw [cell_block hp]; rfl
  have hc1 : w.cell? ⟨p, 1, none⟩ = some vl := by rw [cell_block hp]; rfl
  have hxl := h3.length
  have hll : ∀ w2, lenF w2 0 vl = some (.int .i64 D.ops.length) := fun w2 => by rw [h2.1.len, hxl]
  have hok0 := hok.cut 0
  have hcut0 : D.cut 0 = ⟨D.first, []⟩ := by simp [Dsk.cut]
  rw [hcut0] at hok0
  apply enter68
  apply R_in
  simp (maxSteps := 600000) (disch := omega) only [F68, ↓sy1, sy2, sy3, readOK, sy5, sy6, Nat.reduceEqDiff, ↓reduceIte, sy7, sy8, sy9, sya, oneOf, syb, syc, Nat.reduceAdd, Nat.reduceMul, syd, sye, syf, syg, syh, reduceCtorEq, hc0, hc1, hll, show ¬ ((k : Int) < 0) from by omega, show ¬ ((D.ops.length : Int) < k) from by omega, decide_false]
  refine call0 (begun2_spec κ' h1 hok0) ?_
  rintro _ w1 ⟨q, G1, rfl, hq, hd1, hx1, hnil⟩
  have hg1 := hx1.growG
  obtain ⟨v', hslc, hv'⟩ := h2.1.slcTo (by omega) (m := k) (by omega)
  have hv'l : ∀ w2, lenF w2 0 v' = some (.int .i64 k) := fun w2 => by rw [hv'.len, List.length_take]; congr 2; omega
  simp (maxSteps := 600000) (disch := omega) only [↓sy1, sy2, sy3, readOK, sy5, sy6, Nat.reduceEqDiff, ↓reduceIte, sy7, sy8, sy9, sya, oneOf, syb, syc, Nat.reduceAdd, Nat.reduceMul, syd, sye, syf, syg, syh, reduceCtorEq, Keep.gcell hg1 hc1, hslc, hv'l]
  obtain ⟨_, _, vf', vl', vs', m', hp', ho', hf', h1', ⟨xs', h2', h3'⟩, hs', hw'⟩ := hd1
  have hqw := (Array.getElem?_eq_some_iff.1 hp').1
  have hvl : vl' = .slice none 0 0 := by
    have : w1.cell? ⟨q, 1, none⟩ = some vl' := by rw [cell_block hp']; rfl
    rw [this] at hnil; exact Option.some.inj hnil
  subst hvl
  have hks : (fun c => c = κ' ∨ c = μ) = fun c => c = κ' ∨ c = μ := rfl
  refine loop_rule (fun e w' => ∃ (i : Nat) (G' : Gh) (vlc vsc : Value) (mc : Nat), i ≤ k ∧ e 37 = .int .i64 i ∧ e 36 = .int .i64 k ∧ e 35 = v' ∧ e 6 = .pointer (some ⟨q, 0, none⟩) ∧
      w'.heap[q]? = some (.cells #[vf', vlc, vsc, .map (some mc)] 94 (0, 0)) ∧ G'.own q = κ' ∧ G'.fix q = 0 ∧ RowsAt G' w' vf' D.first ∧ w'.ownsRow w1.heap.size 127 1 vlc i (xs.take i) ∧ (∀ g, vlc.ownBlock = some g → G'.own g = μ ∧ G'.fix g = 0) ∧
      SafeAt G' κ' w' vsc (D.cut i).safe ∧ WaitAt G' κ' w' mc (D.cut i).wait ∧ Ext (fun c => c = κ' ∨ c = μ) G w G' w' ∧ w1.heap.size ≤ w'.heap.size) (fun e _ => k - (intOf (e 37)).toNat)
    ⟨0, G1, .slice none 0 0, vs', m', by omega, by simp [upd, updO, ev], by simp [upd, updO, ev], by simp [upd, updO, ev], by simp [upd, updO, ev], hp', ho', hf', h1', World.ownsRow_nil w1 _ _ _, fun g hg => (by cases hg), by rw [hcut0]; exact hs', by rw [hcut0]; exact hw', hx1.mono (fun _ h => h.elim), Nat.le_refl _⟩ ?_
  rintro e w2 ⟨i, G2, vlc, vsc, mc, hi, e37, e36, e35, e6, hp2, ho2, hf2, hr2, hown, hgl, hs2, hw2, hx2, hsz2⟩
  by_cases hlt : i < k
  · have hF2 := h2.ext hx2
    obtain ⟨v'', hs'', hv''⟩ := hF2.1.slcTo (by omega) (m := k) (by omega)
    rw [hslc] at hs''; cases hs''
    obtain ⟨a, ha, hac, _⟩ := hv''.idx (i := i) (by rw [List.length_take]; omega)
    have hxi : (xs.take (k * 1))[i]'(by rw [List.length_take]; omega) = xs[i]'(by omega) := List.getElem_take
    rw [hxi] at hac
    have hxic := (h3.ext hx2).cell xs[i] (List.getElem_mem (by omega))
    have hop2 := (h3.ext hx2).get i (by omega) (by omega)
    have hcutS := D.cut_succ (show i < D.ops.length by omega)
    have htk : xs.take (i + 1) = xs.take i ++ [xs[i]'(by omega)] := List.take_succ_eq_append_getElem (by omega)
    have hoki := hok.cut i
    have hci := D.cut_ops i
    generalize xs[i]'(by omega) = xi at hac hxic hop2 htk
    have hclc : w2.cell? ⟨q, 1, none⟩ = some vlc := by rw [cell_block hp2]; rfl
    have hxl' : (xs.take i).length = i := by rw [List.length_take]; omega
    -- the note of the operation
    have hgA : Grow w2 (w2.alloc (.cells #[xi] 127)) := (Keep.refl _ _).alloc _
    have hsA : (w2.alloc (.cells #[xi] 127)).heap.size = w2.heap.size + 1 := by simp
    have hsrc : Has 1 (w2.alloc (.cells #[xi] 127)) (.slice (some ⟨w2.heap.size, 0, none⟩) 1 1) [xi] := Has.new1
    have hq2 := (Array.getElem?_eq_some_iff.1 hp2).1
    obtain ⟨z1, b1, z2, b2, hta, htb, hpick⟩ : ∃ z1 b1 z2 b2, taF 111 (.agg #[.int .i64 0, .slice none 0 0]) true xi = some (.tuple #[z1, .bool b1]) ∧ taF 113 (.agg #[]) true xi = some (.tuple #[z2, .bool b2]) ∧ (if b1 = true then Value.bool true else Value.bool b2) = Value.bool true := by
      cases hoo : D.ops[i] with
      | wr n b =>
        rw [hoo] at hop2
        obtain ⟨u, rfl, _⟩ := hop2
        exact ⟨_, _, _, _, rfl, rfl, rfl⟩
      | fl =>
        rw [hoo] at hop2
        cases hop2
        exact ⟨_, _, _, _, rfl, rfl, rfl⟩
    simp (maxSteps := 600000) (disch := omega) only [F68_L0, ↓sy1, sy2, sy3, readOK, sy5, sy6, Nat.reduceEqDiff, ↓reduceIte, sy7, sy8, sy9, sya, oneOf, syb, syc, Nat.reduceAdd, Nat.reduceMul, syd, sye, syf, syg, syh, reduceCtorEq, e37, e36, e35, e6, Int.ofNat_lt, hlt, decide_true, ha, hac, hta, htb, hpick, hclc, oneF_cell hxic]
    generalize w2.alloc (.cells #[xi] 127) = wA at hgA hsA hsrc ⊢
    refine app_own2 elemO (by simp only [upd_at, Nat.reduceEqDiff, reduceIte, ev_tmp, ev_const, List.map_cons, List.map_nil]) (by simp only [upd_at, Nat.reduceEqDiff, reduceIte, ev_tmp, ev_const, List.map_cons, List.map_nil]) (own_grow hown hgA) hsrc (m := 1) rfl (by simpa using hxic) (by omega) (by omega) (by omega) ?_
    intro vn w4 ho4 hg4 hwn
    have hk4 := Keep.grown hg4
    -- ghosts: what is new is μ's
    have hxA : Ext0 G2 w2 (G2.upto w2.heap.size (fun _ => μ) (fun _ => 0)) wA := .upto hgA _ _
    have hold : ∀ b, b < w2.heap.size → (G2.upto w2.heap.size (fun _ => μ) (fun _ => 0)).own b = G2.own b ∧ (G2.upto w2.heap.size (fun _ => μ) (fun _ => 0)).fix b = G2.fix b := fun b hb => by simp [Gh.upto, hb]
    have hnew : ∀ b, w2.heap.size ≤ b → (G2.upto w2.heap.size (fun _ => μ) (fun _ => 0)).own b = μ ∧ (G2.upto w2.heap.size (fun _ => μ) (fun _ => 0)).fix b = 0 := fun b hb => by simp [Gh.upto, Nat.not_lt.2 hb]
    generalize G2.upto w2.heap.size (fun _ => μ) (fun _ => 0) = GA at hxA hold hnew
    have hqA := hold q hq2
    have hx4 : Ext (fun c => c = μ) GA wA GA w4 := by
      rcases hob : vlc.ownBlock with _ | g
      · exact .grow (hk4.mono (fun b _ h => by rw [hob] at h; cases h))
      · obtain ⟨q1, q2⟩ := hgl g hob
        have hgs := (World.ownsRow.lt hown g hob).2
        have q3 := hold g hgs
        exact .on0 (g := g) (hk4.mono (fun b _ h => by rw [hob] at h; cases h; rfl)) (by omega) (by omega)
    have hvn : ∀ g, vn.ownBlock = some g → GA.own g = μ ∧ GA.fix g = 0 := fun g hg => by
      rcases hwn with h | h
      · rw [h] at hg
        obtain ⟨q1, q2⟩ := hgl g hg
        have q3 := hold g (World.ownsRow.lt hown g hg).2
        omega
      · rw [h] at hg; cases hg
        exact hnew _ hgA.size
    have hx24 : Ext (fun c => c = μ) G2 w2 GA w4 := (hxA.mono (fun _ h => h.elim)).trans hx4
    have hp4 := hx24.heap hp2 (by rw [ho2]; exact hκ)
    obtain ⟨w5, hst, hp5, hk5⟩ := cell_store hp4 (i := 1) (by simp) (u := vn) (Has.own ho4).isCell
    have hx5 : Ext (fun c => c = κ') GA w4 GA w5 := .on0 hk5 (by omega) (by omega)
    simp (maxSteps := 600000) (disch := omega) only [↓sy1, sy2, sy3, readOK, sy5, sy6, Nat.reduceEqDiff, ↓reduceIte, sy7, sy8, sy9, sya, oneOf, syb, syc, Nat.reduceAdd, Nat.reduceMul, syd, sye, syf, syg, syh, reduceCtorEq, e37, e36, e35, e6, hst]
    have hbq : ∀ b, vn.ownBlock = some b → b ≠ q := fun b hb => by have := (World.ownsRow.lt ho4 b hb).1; omega
    have ho5 := own_keep ho4 hk5 (fun b hb hbp => hbq b hb hbp)
    have hs4 := hs2.ext hx24 hκ
    have hw4 := hw2.ext hx24 hκ
    have hne : ∀ b cc, w4.heap[b]? = some (Obj.cells cc 28 (0, 0)) → w5.heap[b]? = w4.heap[b]? := fun b cc hb => hk5.blk b (Array.getElem?_eq_some_iff.1 hb).1 (fun hc => by rw [hc, hp4] at hb; simp at hb)
    have hmm : w5.heap[mc]? = w4.heap[mc]? := by
      obtain ⟨es, clk, h, _⟩ := hw4
      exact hk5.blk mc (Array.getElem?_eq_some_iff.1 h).1 (fun hc => by rw [hc, hp4] at h; cases h)
    have hs5 := hs4.stand hx5 (fun b cc hb _ hf => ⟨hne b cc hb, hf⟩)
    have hw5 := hw4.stand hx5 hmm (fun b cc hb _ _ => ⟨hne b cc hb, rfl⟩)
    have hr5 := (hr2.ext hx24).ext hx5
    have hop5 := (hop2.ext hx24).ext hx5
    have hx05 : Ext (fun c => c = κ' ∨ c = μ) G w GA w5 := (hx2.trans (hx24.mono (fun c h => .inr h))).trans (hx5.mono (fun c h => .inl h))
    have hsz5 : w1.heap.size ≤ w5.heap.size := Nat.le_trans hsz2 (Nat.le_trans hx24.size hx5.size)
    rw [← htk] at ho5
    have hp5 : w5.heap[q]? = some (.cells #[vf', vn, vsc, .map (some mc)] 94 (0, 0)) := by simpa using hp5
    have hq5 := (Array.getElem?_eq_some_iff.1 hp5).1
    refine draw68_0 (fun _ => False) ?_
    have hgd : Grow w5 w5.drew := (Keep.refl _ _).drew
    have hxd : Ext0 GA w5 GA w5.drew := .grow hgd
    have hp6 := hgd.gheap hp5
    have ho6 := own_grow ho5 hgd
    have hs6 := hs5.ext hxd id
    have hw6 := hw5.ext hxd id
    have hr6 := hr5.ext hxd
    have hop6 := hop5.ext hxd
    have hx06 := hx05.trans (.grow hgd)
    have hsz6 : w1.heap.size ≤ w5.drew.heap.size := hsz5
    have hq6 : q < w5.drew.heap.size := hq5
    generalize w5.drew = w6 at hgd hxd hp6 ho6 hs6 hw6 hr6 hop6 hx06 hsz6 hq6 ⊢
    cases hoo : D.ops[i] with
    | wr n b =>
      rw [hoo] at hop6 hcutS
      obtain ⟨u, rfl, hu⟩ := hop6
      have hnm := nilF_m (c := #[]) (nilM_ok methW (.agg #[.int .i64 n, u]))
      have hwl := (D.cut i).wait_length n
      simp (maxSteps := 600000) (disch := omega) only [PL68_0, ↓sy1, sy2, sy3, readOK, sy5, sy6, Nat.reduceEqDiff, ↓reduceIte, sy7, sy8, sy9, sya, oneOf, syb, syc, Nat.reduceAdd, Nat.reduceMul, syd, sye, syf, syg, syh, reduceCtorEq, e37, e36, e35, e6, hnm]
      refine invoke_rule (u := .agg #[.int .i64 n, u]) (vs := [.pointer (some ⟨q, 2, none⟩)]) methW (by simp only [upd_at, Nat.reduceEqDiff, reduceIte, ev_tmp, ev_const, List.map_cons, List.map_nil]) (by simp only [upd_at, Nat.reduceEqDiff, reduceIte, ev_tmp, ev_const, List.map_cons, List.map_nil]) (onWrite_spec (n := n) (u := u) hp6 hw6 hu (by omega)) ?_
      rintro v w7 ⟨_, G7, hw7, hx7, hst7⟩
      simp (maxSteps := 600000) (disch := omega) only [↓sy1, sy2, sy3, readOK, sy5, sy6, Nat.reduceEqDiff, ↓reduceIte, sy7, sy8, sy9, sya, oneOf, syb, syc, Nat.reduceAdd, Nat.reduceMul, syd, sye, syf, syg, syh, reduceCtorEq, e37, e36, e35, e6]
      obtain ⟨es, clk, hes, _⟩ := hw6
      have hqm : q ≠ mc := fun hc => by rw [hc, hes] at hp6; cases hp6
      obtain ⟨hp7, hf7⟩ := hst7 q hq6 (by omega) hqm
      refine R_out ⟨⟨i + 1, G7, vn, vsc, mc, by omega, rfl, hp7.trans hp6, by rw [hx7.own q hq6]; omega, hf7, hr6.ext hx7, own_keep ho6 hx7.keep (fun g hg => by have := hvn g hg; omega), fun g hg => ?_, ?_, ?_, hx06.trans (hx7.mono (fun c h => .inl h)), Nat.le_trans hsz6 hx7.size⟩, ?_⟩
      · have h1 := hvn g hg
        have h2 := (World.ownsRow.lt ho6 g hg).2
        rw [hx7.own g h2, hx7.fixe g h2 (by omega)]; exact h1
      · rw [hcutS, Dsk.safe_wr]
        refine hs6.stand hx7 (fun bb cc hb _ hf => hst7 bb (Array.getElem?_eq_some_iff.1 hb).1 hf (fun hc => ?_))
        rw [hc, hes] at hb; cases hb
      · rw [hcutS, Dsk.wait_wr]; exact hw7
      · simp only [intOf]; omega
    | fl =>
      rw [hoo] at hop6 hcutS
      cases hop6
      have hnm := nilF_m (c := #[]) (nilM_ok methF (.agg #[]))
      simp (maxSteps := 600000) (disch := omega) only [PL68_0, ↓sy1, sy2, sy3, readOK, sy5, sy6, Nat.reduceEqDiff, ↓reduceIte, sy7, sy8, sy9, sya, oneOf, syb, syc, Nat.reduceAdd, Nat.reduceMul, syd, sye, syf, syg, syh, reduceCtorEq, e37, e36, e35, e6, hnm]
      refine invoke_rule (vs := [.pointer (some ⟨q, 2, none⟩)]) methF (by simp only [upd_at, Nat.reduceEqDiff, reduceIte, ev_tmp, ev_const, List.map_cons, List.map_nil]) (by simp only [upd_at, Nat.reduceEqDiff, reduceIte, ev_tmp, ev_const, List.map_cons, List.map_nil]) (onFlush_spec hp6 hw6 hs6 (fun n hn => by rw [Dsk.safe_length]; exact hoki.waits hn) (fun n => by have := (D.cut i).wait_length n; omega)) ?_
      rintro v w7 ⟨_, hw7, hs7, hx7, hp7⟩
      simp (maxSteps := 600000) (disch := omega) only [↓sy1, sy2, sy3, readOK, sy5, sy6, Nat.reduceEqDiff, ↓reduceIte, sy7, sy8, sy9, sya, oneOf, syb, syc, Nat.reduceAdd, Nat.reduceMul, syd, sye, syf, syg, syh, reduceCtorEq, e37, e36, e35, e6]
      refine R_out ⟨⟨i + 1, GA, vn, vsc, mc, by omega, rfl, hp7, by omega, by omega, hr6.ext hx7, own_keep ho6 hx7.keep (fun g hg => by have := hvn g hg; omega), hvn, ?_, ?_, hx06.trans (hx7.mono (fun c h => .inl h)), Nat.le_trans hsz6 hx7.size⟩, ?_⟩
      · rw [hcutS, Dsk.safe_fl]; exact hs7
      · rw [hcutS, Dsk.wait_fl]; exact hw7
      · simp only [intOf]; omega
  · have hie : i = k := by omega
    subst hie
    simp (maxSteps := 600000) (disch := omega) only [F68_L0, ↓sy1, sy2, sy3, readOK, sy5, sy6, Nat.reduceEqDiff, ↓reduceIte, sy7, sy8, sy9, sya, oneOf, syb, syc, Nat.reduceAdd, Nat.reduceMul, syd, sye, syf, syg, syh, reduceCtorEq, e37, e36, e35, e6, Int.ofNat_lt, hlt, decide_false]
    have hokc := hok.cut i
    have hlc := D.cut_ops i
    have hops : ∀ {G'}, Ext (fun c => c = κ' ∨ c = μ) G w G' w2 → OpsF G' w2 (xs.take i) (D.cut i).ops := fun hx => (h3.ext hx).take i
    rcases hob : vlc.ownBlock with _ | g
    · exact R_out ⟨q, G2, rfl, hq, ⟨hokc, by omega, vf', vlc, vsc, mc, hp2, ho2, hf2, hr2, ⟨_, own_fix1 hown (fun b hb => by rw [hob] at hb; cases hb), hops hx2⟩, hs2, hw2⟩, hx2⟩
    · obtain ⟨hg1', hg2'⟩ := hgl g hob
      have hxf : Ext (fun c => c = μ) G2 w2 (G2.at g μ maxLen) w2 := .upd (Keep.refl _ _) (fun _ => ⟨hg1', by omega⟩) (fun _ _ _ _ h => h)
      have hne : ¬ κ' = μ := hκ
      have hgq : q ≠ g := fun he => by subst he; omega
      exact R_out ⟨q, G2.at g μ maxLen, rfl, hq, ⟨hokc, by omega, vf', vlc, vsc, mc, hp2, by rw [Gh.at_own' hgq]; exact ho2, by rw [Gh.at_fix' hgq]; exact hf2, hr2.ext hxf, ⟨_, own_fix1 hown (fun b hb => by rw [hob] at hb; cases hb; rw [Gh.at_fix]; exact Nat.le_refl _), hops (hx2.trans (hxf.mono (fun c h => .inr h)))⟩, hs2.ext hxf hne, hw2.ext hxf hne⟩, hx2.trans (hxf.mono (fun c h => .inr h))⟩
end Go.Proofs.Ytneehlkofcdhoaa
