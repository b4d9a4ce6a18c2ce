/- DiskLoads: the walk. -/
import Derived.Test.YtaeejceljgjdkaaLo
import Derived.Test.YtaeejceljgjdkaaFo
namespace Go.Proofs.Ytaeejceljgjdkaa
open Go
set_option linter.unusedSimpArgs false
open Go.RowKit (intOf)
def OwnL (B : Nat) (w : World) (vs : List Value) (ls : List (List UInt8)) : Prop := ∀ j (h1 : j < vs.length) (h2 : j < ls.length), ∃ xs, w.ownsRow B 5 1 vs[j] ls[j].length xs
theorem RowsO.ownL {B : Nat} {w : World} {vs : List Value} {ls : List (List UInt8)} (h : RowsO B 5 w vs ls) : OwnL B w vs ls := fun j h1 h2 => ⟨_, h.get j h1 h2⟩
theorem OwnL.keep {S : Nat → Prop} {B : Nat} {w w' : World} {vs : List Value} {ls : List (List UInt8)} (h : OwnL B w vs ls) (hk : Keep S w w') (hs : ∀ b, B ≤ b → ¬ S b) : OwnL B w' vs ls := fun j h1 h2 => by
  obtain ⟨xs, hx⟩ := h j h1 h2
  exact ⟨xs, own_keep hx hk (fun b hb => hs b (World.ownsRow.lt hx b hb).1)⟩
theorem own_cells {B n b : Nat} {el : TypeId} {w : World} {v : Value} {xs : List Value} (h : w.ownsRow B el 1 v n xs) (hb : v.ownBlock = some b) : ∃ cur, w.heap[b]? = some (.cells cur el (0, 0)) := by
  obtain ⟨_, ⟨h, _⟩ | ⟨g, cap, cur, hvv, _, hh, _⟩⟩ := h
  · rw [h] at hb; cases hb
  · rw [hvv] at hb; cases hb; exact ⟨cur, hh⟩
/-- A store into a row of one's own: all rows of that kind stay rows of one's own. -/
theorem own_storeA {B n : Nat} {el : TypeId} {w : World} {v : Value} {xs : List Value} (h : w.ownsRow B el 1 v n xs) {i : Nat} (hi : i < n) {u : Value} (hu : isCell u = true) :
    ∃ a w', iaF 1 v (.int .i64 i) = some (.pointer (some a)) ∧ stF w (.pointer (some a)) u = some (undef, w') ∧ Keep (fun b => b = a.block) w w' ∧ v.ownBlock = some a.block ∧
      ∀ B' v' n' xs', w.ownsRow B' el 1 v' n' xs' → ∃ xs'', w'.ownsRow B' el 1 v' n' xs'' := by
  obtain ⟨a, w', hia, hst, ho', hk, hob⟩ := own_store h hi hu
  have hk' : Keep (fun b => b = a.block) w w' := hk.mono (fun b _ hb => by rw [hob] at hb; cases hb; rfl)
  refine ⟨a, w', hia, hst, hk', hob, fun B' v' n' xs' h' => ?_⟩
  obtain ⟨h0, ⟨h1, h2⟩ | ⟨g, cap, cur, rfl, h2, h3, h4, h5, h6, h7⟩⟩ := h'
  · exact ⟨xs', h0, .inl ⟨h1, h2⟩⟩
  · by_cases hg : g = a.block
    · obtain ⟨_, ⟨h, _⟩ | ⟨g', cap', cur', hv', _, hh', _, _, hc', _⟩⟩ := ho'
      · rw [h] at hob; cases hob
      · obtain ⟨_, ⟨h, _⟩ | ⟨g0, cap0, cur0, hv0, _, hh0, _, _, hc0, _⟩⟩ := h
        · rw [h] at hob; cases hob
        · rw [hv0] at hv'; cases hv'
          rw [hv0] at hob; cases hob
          rw [hg] at h3
          rw [h3] at hh0; cases hh0
          refine ⟨cur'.toList.take (n' * 1), ?_, .inr ⟨g, cap, cur', rfl, h2, by rw [hg]; exact hh', h4, h5, by omega, rfl⟩⟩
          rw [List.length_take, Array.length_toList]; omega
    · exact ⟨xs', h0, .inr ⟨g, cap, cur, rfl, h2, hk'.heap h3 hg, h4, h5, h6, h7⟩⟩
theorem fillF_23of4 {a b c d x y : Value} (hx : isCell x = true) (hy : isCell y = true) : fillF #[a, b, c, d] [(2, 1, x), (3, 1, y)] = some #[a, b, x, y] := by
  rw [fillF_cell hx (by simp), fillF_cell hy (by simp), fillF_nil]; simp
set_option maxHeartbeats 3200000 in
theorem diskLoads_walk {w : World} {zv : Value} {z : List Int} {k : Nat} (hk : k < 256) (hz : HasI w zv z) (hzl : z.length ≤ 9223372036854775807) :
    Calls Try.prog 8 #[zv, .int .u8 k] w (Ret fun v w' => v = .bool true ∧ Grow w w') := by
  have hx8 : ((UInt8.ofNat k).toNat : Int) = (k : Int) := by rw [UInt8.toNat_ofNat']; omega
  generalize UInt8.ofNat k = x8 at hx8
  apply enter8
  apply R_in
  simp (maxSteps := 1000000) (disch := omega) only [F8, ↓sy1, sy2, sy3, readOK, implies_true, forall_const, Nat.reduceEqDiff, ↓reduceIte, Option.map_some, Option.map_none, List.map_cons, List.map_nil, oneOf, if_true, if_false, Nat.reduceAdd, Nat.reduceMul, Option.isNone_some, Option.isNone_none, List.getElem?_toArray, List.getElem?_cons_zero, List.getElem?_cons_succ, reduceCtorEq]
  refine loop_rule (fun e w' => ∃ (i : Nat) (out : Value) (vs : List Value), i ≤ z.length ∧ i ≤ 20 ∧ e 6 = .int .i64 i ∧ e 0 = zv ∧ e 1 = .int .u8 k ∧ e 5 = out ∧ vs.length = i ∧
      w'.ownsRow w.heap.size 37 1 out i vs ∧ RowsO w.heap.size 5 w' vs ((z.take i).map fun s => (Deed.mk false 0 s x8).bytes) ∧ Grow w w') (fun e _ => 20 - (intOf (e 6)).toNat)
    ⟨0, .slice none 0 0, [], by omega, by omega, by simp [upd, updO, ev], by simp [upd, updO, ev], by simp [upd, updO, ev], by simp [upd, updO, ev], rfl, World.ownsRow_nil w _ _ _, trivial, Keep.refl _ _⟩ ?_
  rintro e w1 ⟨i, out, vs, hi, hi20, e6, e0, e1, e5, hvl, hown, hrows, hg1⟩
  by_cases hgo : i < z.length ∧ i < 20
  · obtain ⟨hlt, h20⟩ := hgo
    have h20' : ((i : Int) < 20) := by omega
    obtain ⟨za, hza, hzac, _⟩ := (hz.grow hg1).getI hlt
    have hval : ∀ s : Int, Value.agg #[.bool false, .int .i64 0, .int .i64 s, .int .u8 (k : Int)] = (Deed.mk false 0 s x8).val := fun s => by rw [Deed.val]; simp only [hx8]
    simp (maxSteps := 1000000) (disch := omega) only [F8_L0, ↓sy1, sy2, sy3, readOK, implies_true, forall_const, Nat.reduceEqDiff, ↓reduceIte, Option.map_some, Option.map_none, List.map_cons, List.map_nil, oneOf, if_true, if_false, Nat.reduceAdd, Nat.reduceMul, Option.isNone_some, Option.isNone_none, List.getElem?_toArray, List.getElem?_cons_zero, List.getElem?_cons_succ, reduceCtorEq, e6, e0, e1, e5, hz.lenI, Int.ofNat_lt, hlt, h20', decide_true, hza, hzac, fill_gen, fillF_23of4 (a := .bool false) (b := .int .i64 0) (c := .int .i64 0) (d := .int .u8 0) (show isCell (.int .i64 z[i]) = true from rfl) (show isCell (.int .u8 (k : Int)) = true from rfl), Option.map_some, hval]
    refine call0 (bytes_spec _ w1) ?_
    rintro bv w2 ⟨hbv, hg2⟩
    have hbc := (Has.own hbv).isCell
    simp (maxSteps := 1000000) (disch := omega) only [↓sy1, sy2, sy3, readOK, implies_true, forall_const, Nat.reduceEqDiff, ↓reduceIte, Option.map_some, Option.map_none, List.map_cons, List.map_nil, oneOf, if_true, if_false, Nat.reduceAdd, Nat.reduceMul, Option.isNone_some, Option.isNone_none, List.getElem?_toArray, List.getElem?_cons_zero, List.getElem?_cons_succ, reduceCtorEq, e6, e0, e1, e5, oneF_cell hbc]
    have hown2 := own_grow hown hg2
    have hga : Grow w2 (w2.alloc (.cells #[bv] 37)) := (Keep.refl _ _).alloc _
    refine app_own elemR (by simp only [upd_at, Nat.reduceEqDiff, reduceIte, ev_tmp, ev_const, List.map_cons, List.map_nil, e5]) (by simp only [upd_at, Nat.reduceEqDiff, reduceIte, ev_tmp, ev_const, List.map_cons, List.map_nil]) (own_grow hown2 hga) Has.new1 (m := 1) rfl (by simpa using hbc) (by omega) (by omega) (by have := hg1.size; have := hg2.size; simp; omega) ?_
    intro out' w3 ho3 hg3
    simp (maxSteps := 1000000) (disch := omega) only [↓sy1, sy2, sy3, readOK, implies_true, forall_const, Nat.reduceEqDiff, ↓reduceIte, Option.map_some, Option.map_none, List.map_cons, List.map_nil, oneOf, if_true, if_false, Nat.reduceAdd, Nat.reduceMul, Option.isNone_some, Option.isNone_none, List.getElem?_toArray, List.getElem?_cons_zero, List.getElem?_cons_succ, reduceCtorEq, e6, e0, e1, e5]
    have hk3 := (Keep.refl (fun b => some b = out.ownBlock) w2).trans (((Keep.refl _ _).alloc (.cells #[bv] 37)).trans (Keep.grown hg3))
    have hgw : Grow w w3 := (hg1.trans hg2).then hk3 (fun b hb h => by
      obtain ⟨hbb, _⟩ := World.ownsRow.lt hown2 b h.symm; omega)
    refine R_out ⟨⟨i + 1, out', vs ++ [bv], by omega, by omega, rfl, rfl, by simp [hvl], ho3, ?_, hgw⟩, ?_⟩
    · rw [List.take_succ_eq_append_getElem hlt, List.map_append, List.map_cons, List.map_nil]
      refine RowsO.snoc ((hrows.grow hg2).keep hk3 (fun b hb u' n' xs' hu' => own_ne hown2 hu' (by decide) hb.symm)) ?_
      rw [Deed.bytes_length]
      exact own_keep (own_base hbv hg1.size) hk3 (fun b hb hS => own_ne hown2 (own_base hbv hg1.size) (by decide) hS.symm hb)
    · simp only [intOf]; omega
  have hstop : (i < z.length ∧ ¬ ((i : Int) < 20)) ∨ ¬ i < z.length := by omega
  obtain ⟨ls, hls⟩ : ∃ ls, ls = (z.take i).map fun s => (Deed.mk false 0 s x8).bytes := ⟨_, rfl⟩
  rw [← hls] at hrows
  have hlsl : ls.length = i := by rw [hls]; simp; omega
  have hsmall : Small ls := fun l hl => by
    rw [hls] at hl
    obtain ⟨s, _, rfl⟩ := List.mem_map.1 hl
    have := (Deed.mk false 0 s x8).size_le
    rw [Deed.bytes_length]; omega
  clear hls
  rw [← hlsl] at hown hvl
  have hHas : HasR w1 out ls := ⟨vs, Has.own hown, hrows.rows⟩
  have hxm : Ext0 G00 w (G00.upto w.heap.size (fun _ => 3) (fun _ => 0)) w1 := .upto hg1 _ _
  have hmark : ∀ b, w.heap.size ≤ b → (G00.upto w.heap.size (fun _ => 3) (fun _ => 0)).own b = 3 ∧ (G00.upto w.heap.size (fun _ => 3) (fun _ => 0)).fix b = 0 := fun b hb => by simp [Gh.upto, Nat.not_lt.2 hb]
  generalize G00.upto w.heap.size (fun _ => 3) (fun _ => 0) = Gm at hxm hmark
  have hmk : ∀ j (h : j < vs.length), ∀ b, vs[j].ownBlock = some b → Gm.own b = 3 ∧ Gm.fix b = 0 ∧ b < w1.heap.size := fun j h b hb => by
    obtain ⟨xs, hx⟩ := hrows.ownL j h (by omega)
    obtain ⟨q1, q2⟩ := World.ownsRow.lt hx b hb
    exact ⟨(hmark b q1).1, (hmark b q1).2, q2⟩
  have hrowsL := hrows.ownL
  clear hrows
  have hcase : ls.length < 1 ∨ (1 ≤ ls.length ∧ ¬ ∀ l ∈ ls, l.length = 512) ∨ (1 ≤ ls.length ∧ ∀ l ∈ ls, l.length = 512) := by
    by_cases h : ls.length < 1
    · exact .inl h
    · by_cases h' : ∀ l ∈ ls, l.length = 512
      · exact .inr (.inr ⟨by omega, h'⟩)
      · exact .inr (.inl ⟨by omega, h'⟩)
  have hgoal : True := trivial
  rcases hstop with ⟨hlt, h20'⟩ | hlt
  · simp (maxSteps := 1000000) (disch := omega) only [F8_L0, ↓sy1, sy2, sy3, readOK, implies_true, forall_const, Nat.reduceEqDiff, ↓reduceIte, Option.map_some, Option.map_none, List.map_cons, List.map_nil, oneOf, if_true, if_false, Nat.reduceAdd, Nat.reduceMul, Option.isNone_some, Option.isNone_none, List.getElem?_toArray, List.getElem?_cons_zero, List.getElem?_cons_succ, reduceCtorEq, e6, e0, e1, e5, hz.lenI, Int.ofNat_lt, hlt, h20', decide_true, decide_false]
    rcases hcase with hs | ⟨hone, hall⟩ | ⟨hone, hall⟩
    · have h1 : ls.length < 1 := by omega
      refine call0 (load_spec (G := Gm) 1 hHas (by omega) hsmall) ?_
      rintro _ w2 hl2
      obtain ⟨rfl, rfl⟩ := (hl2).1 (.inl h1)
      simp (maxSteps := 1000000) (disch := omega) only [↓sy1, sy2, sy3, readOK, implies_true, forall_const, Nat.reduceEqDiff, ↓reduceIte, Option.map_some, Option.map_none, List.map_cons, List.map_nil, oneOf, if_true, if_false, Nat.reduceAdd, Nat.reduceMul, Option.isNone_some, Option.isNone_none, List.getElem?_toArray, List.getElem?_cons_zero, List.getElem?_cons_succ, reduceCtorEq, e6, e0, e1, e5]
      refine call0 (rload_spec (G := Gm) 2 hHas (by omega) hsmall) ?_
      rintro _ w3 hl3
      obtain ⟨rfl, rfl⟩ := (hl3).1 (.inl h1)
      simp (maxSteps := 1000000) (disch := omega) only [↓sy1, sy2, sy3, readOK, implies_true, forall_const, Nat.reduceEqDiff, ↓reduceIte, Option.map_some, Option.map_none, List.map_cons, List.map_nil, oneOf, if_true, if_false, Nat.reduceAdd, Nat.reduceMul, Option.isNone_some, Option.isNone_none, List.getElem?_toArray, List.getElem?_cons_zero, List.getElem?_cons_succ, reduceCtorEq, e6, e0, e1, e5]
      refine call0 (live_spec _) ?_
      rintro _ w4 ⟨rfl, hg4⟩
      simp (maxSteps := 1000000) (disch := omega) only [↓sy1, sy2, sy3, readOK, implies_true, forall_const, Nat.reduceEqDiff, ↓reduceIte, Option.map_some, Option.map_none, List.map_cons, List.map_nil, oneOf, if_true, if_false, Nat.reduceAdd, Nat.reduceMul, Option.isNone_some, Option.isNone_none, List.getElem?_toArray, List.getElem?_cons_zero, List.getElem?_cons_succ, reduceCtorEq, e6, e0, e1, e5, decide_true, beq_self_eq_true, Bool.not_true]
      refine call0 rimage_nil ?_
      rintro _ w8 ⟨rfl, rfl⟩
      have hx18 : Ext0 Gm _ Gm _ := Ext.grow hg4
      obtain ⟨G8, hG8⟩ : ∃ G, G = Gm := ⟨_, rfl⟩
      rw [← hG8] at hx18
      obtain ⟨dv, hdv⟩ : ∃ v, v = Value.pointer none := ⟨_, rfl⟩
      obtain ⟨wasv, hwv⟩ : ∃ v, v = Value.slice none 0 0 := ⟨_, rfl⟩
      simp (maxSteps := 1000000) (disch := omega) only [↓sy1, sy2, sy3, readOK, implies_true, forall_const, Nat.reduceEqDiff, ↓reduceIte, Option.map_some, Option.map_none, List.map_cons, List.map_nil, oneOf, if_true, if_false, Nat.reduceAdd, Nat.reduceMul, Option.isNone_some, Option.isNone_none, List.getElem?_toArray, List.getElem?_cons_zero, List.getElem?_cons_succ, reduceCtorEq, e6, e0, e1, e5]
      rw [← hG8] at hxm
      have hmk8 : ∀ j (h : j < vs.length), ∀ b, vs[j].ownBlock = some b → G8.own b = 3 ∧ G8.fix b = 0 := fun j h b hb => by
        obtain ⟨q1, q2, q3⟩ := hmk j h b hb
        first | exact ⟨(hx18.own b q3).trans q1, (hx18.fixe b q3 id).trans q2⟩ | (rw [hG8]; exact ⟨q1, q2⟩)
      have hout8 := own_grow hown hx18.growG
      have hrows8 : OwnL w.heap.size _ vs ls := hrowsL.keep hx18.growG (fun _ _ => id)
      have hbound : ls.length ≤ 20 := by omega
      refine loop_rule (fun e w' => ∃ j : Nat, j ≤ ls.length ∧ e 12 = .int .i64 j ∧ e 5 = out ∧ e 1 = .int .u8 k ∧ e 7 = dv ∧ e 11 = wasv ∧ w'.ownsRow w.heap.size 37 1 out ls.length vs ∧ OwnL w.heap.size w' vs ls ∧ Ext (fun c => c = 3) G8 w8 G8 w') (fun e _ => ls.length - (intOf (e 12)).toNat)
        ⟨0, by omega, by simp [upd, updO, ev], by simp [upd, updO, ev, e5], by simp [upd, updO, ev, e1], by simp [upd, updO, ev, hdv], by simp [upd, updO, ev, hwv], hout8, hrows8, .refl _ _ _⟩ ?_
      clear e6 e0 e1 e5
      rintro e w9 ⟨j, hj, e12, e5, e1, e7, e11, hout9, hrows9, hx9⟩
      have hlo : ∀ w', lenF w' 0 out = some (.int .i64 ls.length) := fun w' => by rw [(Has.own hout9).len]; have : vs.length = ls.length := (by simpa using hout9.1); rw [this]
      by_cases hjl : j < ls.length
      · simp (maxSteps := 1000000) (disch := omega) only [F8_L2, ↓sy1, sy2, sy3, readOK, implies_true, forall_const, Nat.reduceEqDiff, ↓reduceIte, Option.map_some, Option.map_none, List.map_cons, List.map_nil, oneOf, if_true, if_false, Nat.reduceAdd, Nat.reduceMul, Option.isNone_some, Option.isNone_none, List.getElem?_toArray, List.getElem?_cons_zero, List.getElem?_cons_succ, reduceCtorEq, e12, e5, e1, e7, e11, hlo, Int.ofNat_lt, hjl, decide_true]
        have hll : ls[j].length ≤ 1048576 := hsmall _ (List.getElem_mem hjl)
        refine loop_rule (fun e w' => ∃ t : Nat, t ≤ ls[j].length ∧ e 13 = .int .i64 t ∧ e 12 = .int .i64 j ∧ e 5 = out ∧ e 1 = .int .u8 k ∧ e 7 = dv ∧ e 11 = wasv ∧ w'.ownsRow w.heap.size 37 1 out ls.length vs ∧ OwnL w.heap.size w' vs ls ∧ Ext (fun c => c = 3) G8 w8 G8 w') (fun e _ => ls[j].length - (intOf (e 13)).toNat)
          ⟨0, by omega, by simp [upd, updO, ev], by simp [upd, updO, ev, e12], by simp [upd, updO, ev, e5], by simp [upd, updO, ev, e1], by simp [upd, updO, ev, e7], by simp [upd, updO, ev, e11], hout9, hrows9, hx9⟩ ?_
        clear e12 e5 e1 e7 e11
        rintro e w10 ⟨t, ht, e13, e12, e5, e1, e7, e11, hout10, hrows10, hx10⟩
        have hvl : vs.length = ls.length := by simpa using hout10.1
        obtain ⟨pa, hpa, hpac, _⟩ := (Has.own hout10).idx (i := j) (by omega)
        obtain ⟨xs, hxs⟩ := hrows10 j (by omega) hjl
        have hlu : ∀ w', lenF w' 0 (vs[j]'(by omega)) = some (.int .i64 ls[j].length) := fun w' => by rw [(Has.own hxs).len]; have : xs.length = ls[j].length := (by simpa using hxs.1); rw [this]
        by_cases htl : t < ls[j].length
        · obtain ⟨a, w11, ha, hst, hk11, hob, hall11⟩ := own_storeA hxs htl (u := .int .u8 (((k : Int) + 1) % 256)) rfl
          obtain ⟨cur, hcur⟩ := own_cells hxs hob
          simp (maxSteps := 1000000) (disch := omega) only [F8_L1, ↓sy1, sy2, sy3, readOK, implies_true, forall_const, Nat.reduceEqDiff, ↓reduceIte, Option.map_some, Option.map_none, List.map_cons, List.map_nil, oneOf, if_true, if_false, Nat.reduceAdd, Nat.reduceMul, Option.isNone_some, Option.isNone_none, List.getElem?_toArray, List.getElem?_cons_zero, List.getElem?_cons_succ, reduceCtorEq, e13, e12, e5, e1, e7, e11, hpa, hpac, hlu, Int.ofNat_lt, htl, decide_true, ha, hst]
          have hx11 : Ext (fun c => c = 3) G8 w10 G8 w11 := .on0 hk11 (hmk8 j (by omega) a.block hob).1 (hmk8 j (by omega) a.block hob).2
          refine R_out ⟨⟨t + 1, by omega, rfl, own_keepT hout10 hk11 hcur (by decide), fun q h1 h2 => (hrows10 q h1 h2).elim fun _ hx => hall11 _ _ _ _ hx, hx10.trans hx11⟩, ?_⟩
          simp only [intOf]; omega
        · simp (maxSteps := 1000000) (disch := omega) only [F8_L1, ↓sy1, sy2, sy3, readOK, implies_true, forall_const, Nat.reduceEqDiff, ↓reduceIte, Option.map_some, Option.map_none, List.map_cons, List.map_nil, oneOf, if_true, if_false, Nat.reduceAdd, Nat.reduceMul, Option.isNone_some, Option.isNone_none, List.getElem?_toArray, List.getElem?_cons_zero, List.getElem?_cons_succ, reduceCtorEq, e13, e12, e5, e1, e7, e11, hpa, hpac, hlu, Int.ofNat_lt, htl, decide_false]
          refine R_out ⟨⟨j + 1, by omega, rfl, hout10, hrows10, hx10⟩, ?_⟩
          simp only [intOf]; omega
      · simp (maxSteps := 1000000) (disch := omega) only [F8_L2, ↓sy1, sy2, sy3, readOK, implies_true, forall_const, Nat.reduceEqDiff, ↓reduceIte, Option.map_some, Option.map_none, List.map_cons, List.map_nil, oneOf, if_true, if_false, Nat.reduceAdd, Nat.reduceMul, Option.isNone_some, Option.isNone_none, List.getElem?_toArray, List.getElem?_cons_zero, List.getElem?_cons_succ, reduceCtorEq, e12, e5, e1, e7, e11, hlo, Int.ofNat_lt, hjl, decide_false]
        have hxall : Ext Mine G00 w G8 w9 := ((hxm.trans hx18).mono (fun _ h => h.elim)).trans (hx9.mono (fun c h => by omega))
        rw [hdv]
        refine call0 image_nil ?_
        rintro _ w12 ⟨rfl, rfl⟩
        rw [hwv] at e11
        simp (maxSteps := 1000000) (disch := omega) only [↓sy1, sy2, sy3, readOK, implies_true, forall_const, Nat.reduceEqDiff, ↓reduceIte, Option.map_some, Option.map_none, List.map_cons, List.map_nil, oneOf, if_true, if_false, Nat.reduceAdd, Nat.reduceMul, Option.isNone_some, Option.isNone_none, List.getElem?_toArray, List.getElem?_cons_zero, List.getElem?_cons_succ, reduceCtorEq, e12, e5, e1, e7, e11, hdv]
        refine call0 (sameAll_spec _ _ [] [] _ (HasR.nil _) (HasR.nil _) (by simp) (fun b hb => by cases hb)) ?_
        rintro _ w13 ⟨rfl, hg13⟩
        simp (maxSteps := 1000000) (disch := omega) only [↓sy1, sy2, sy3, readOK, implies_true, forall_const, Nat.reduceEqDiff, ↓reduceIte, Option.map_some, Option.map_none, List.map_cons, List.map_nil, oneOf, if_true, if_false, Nat.reduceAdd, Nat.reduceMul, Option.isNone_some, Option.isNone_none, List.getElem?_toArray, List.getElem?_cons_zero, List.getElem?_cons_succ, reduceCtorEq, e12, e5, e1, e7, e11, hdv, decide_true]
        refine call0 ops_nil ?_
        rintro _ w14 ⟨rfl, rfl⟩
        simp (maxSteps := 1000000) (disch := omega) only [↓sy1, sy2, sy3, readOK, implies_true, forall_const, Nat.reduceEqDiff, ↓reduceIte, Option.map_some, Option.map_none, List.map_cons, List.map_nil, oneOf, if_true, if_false, Nat.reduceAdd, Nat.reduceMul, Option.isNone_some, Option.isNone_none, List.getElem?_toArray, List.getElem?_cons_zero, List.getElem?_cons_succ, reduceCtorEq, decide_true]
        exact R_out ((hxall.toGrow (by simp)).trans hg13)
    · have h1 : 1 ≤ ls.length := by omega
      have h2 : ls.length ≤ 4096 := by omega
      refine call0 (load_spec (G := Gm) 1 hHas (by omega) hsmall) ?_
      rintro _ w2 hl2
      obtain ⟨rfl, rfl⟩ := (hl2).2.1 h1 h2 hall
      simp (maxSteps := 1000000) (disch := omega) only [↓sy1, sy2, sy3, readOK, implies_true, forall_const, Nat.reduceEqDiff, ↓reduceIte, Option.map_some, Option.map_none, List.map_cons, List.map_nil, oneOf, if_true, if_false, Nat.reduceAdd, Nat.reduceMul, Option.isNone_some, Option.isNone_none, List.getElem?_toArray, List.getElem?_cons_zero, List.getElem?_cons_succ, reduceCtorEq, e6, e0, e1, e5]
      refine call0 (rload_spec (G := Gm) 2 hHas (by omega) hsmall) ?_
      rintro _ w3 hl3
      obtain ⟨rfl, rfl⟩ := (hl3).2.1 h1 h2 hall
      simp (maxSteps := 1000000) (disch := omega) only [↓sy1, sy2, sy3, readOK, implies_true, forall_const, Nat.reduceEqDiff, ↓reduceIte, Option.map_some, Option.map_none, List.map_cons, List.map_nil, oneOf, if_true, if_false, Nat.reduceAdd, Nat.reduceMul, Option.isNone_some, Option.isNone_none, List.getElem?_toArray, List.getElem?_cons_zero, List.getElem?_cons_succ, reduceCtorEq, e6, e0, e1, e5]
      refine call0 (live_spec _) ?_
      rintro _ w4 ⟨rfl, hg4⟩
      simp (maxSteps := 1000000) (disch := omega) only [↓sy1, sy2, sy3, readOK, implies_true, forall_const, Nat.reduceEqDiff, ↓reduceIte, Option.map_some, Option.map_none, List.map_cons, List.map_nil, oneOf, if_true, if_false, Nat.reduceAdd, Nat.reduceMul, Option.isNone_some, Option.isNone_none, List.getElem?_toArray, List.getElem?_cons_zero, List.getElem?_cons_succ, reduceCtorEq, e6, e0, e1, e5, decide_true, beq_self_eq_true, Bool.not_true]
      refine call0 rimage_nil ?_
      rintro _ w8 ⟨rfl, rfl⟩
      have hx18 : Ext0 Gm _ Gm _ := Ext.grow hg4
      obtain ⟨G8, hG8⟩ : ∃ G, G = Gm := ⟨_, rfl⟩
      rw [← hG8] at hx18
      obtain ⟨dv, hdv⟩ : ∃ v, v = Value.pointer none := ⟨_, rfl⟩
      obtain ⟨wasv, hwv⟩ : ∃ v, v = Value.slice none 0 0 := ⟨_, rfl⟩
      simp (maxSteps := 1000000) (disch := omega) only [↓sy1, sy2, sy3, readOK, implies_true, forall_const, Nat.reduceEqDiff, ↓reduceIte, Option.map_some, Option.map_none, List.map_cons, List.map_nil, oneOf, if_true, if_false, Nat.reduceAdd, Nat.reduceMul, Option.isNone_some, Option.isNone_none, List.getElem?_toArray, List.getElem?_cons_zero, List.getElem?_cons_succ, reduceCtorEq, e6, e0, e1, e5]
      rw [← hG8] at hxm
      have hmk8 : ∀ j (h : j < vs.length), ∀ b, vs[j].ownBlock = some b → G8.own b = 3 ∧ G8.fix b = 0 := fun j h b hb => by
        obtain ⟨q1, q2, q3⟩ := hmk j h b hb
        first | exact ⟨(hx18.own b q3).trans q1, (hx18.fixe b q3 id).trans q2⟩ | (rw [hG8]; exact ⟨q1, q2⟩)
      have hout8 := own_grow hown hx18.growG
      have hrows8 : OwnL w.heap.size _ vs ls := hrowsL.keep hx18.growG (fun _ _ => id)
      have hbound : ls.length ≤ 20 := by omega
      refine loop_rule (fun e w' => ∃ j : Nat, j ≤ ls.length ∧ e 12 = .int .i64 j ∧ e 5 = out ∧ e 1 = .int .u8 k ∧ e 7 = dv ∧ e 11 = wasv ∧ w'.ownsRow w.heap.size 37 1 out ls.length vs ∧ OwnL w.heap.size w' vs ls ∧ Ext (fun c => c = 3) G8 w8 G8 w') (fun e _ => ls.length - (intOf (e 12)).toNat)
        ⟨0, by omega, by simp [upd, updO, ev], by simp [upd, updO, ev, e5], by simp [upd, updO, ev, e1], by simp [upd, updO, ev, hdv], by simp [upd, updO, ev, hwv], hout8, hrows8, .refl _ _ _⟩ ?_
      clear e6 e0 e1 e5
      rintro e w9 ⟨j, hj, e12, e5, e1, e7, e11, hout9, hrows9, hx9⟩
      have hlo : ∀ w', lenF w' 0 out = some (.int .i64 ls.length) := fun w' => by rw [(Has.own hout9).len]; have : vs.length = ls.length := (by simpa using hout9.1); rw [this]
      by_cases hjl : j < ls.length
      · simp (maxSteps := 1000000) (disch := omega) only [F8_L2, ↓sy1, sy2, sy3, readOK, implies_true, forall_const, Nat.reduceEqDiff, ↓reduceIte, Option.map_some, Option.map_none, List.map_cons, List.map_nil, oneOf, if_true, if_false, Nat.reduceAdd, Nat.reduceMul, Option.isNone_some, Option.isNone_none, List.getElem?_toArray, List.getElem?_cons_zero, List.getElem?_cons_succ, reduceCtorEq, e12, e5, e1, e7, e11, hlo, Int.ofNat_lt, hjl, decide_true]
        have hll : ls[j].length ≤ 1048576 := hsmall _ (List.getElem_mem hjl)
        refine loop_rule (fun e w' => ∃ t : Nat, t ≤ ls[j].length ∧ e 13 = .int .i64 t ∧ e 12 = .int .i64 j ∧ e 5 = out ∧ e 1 = .int .u8 k ∧ e 7 = dv ∧ e 11 = wasv ∧ w'.ownsRow w.heap.size 37 1 out ls.length vs ∧ OwnL w.heap.size w' vs ls ∧ Ext (fun c => c = 3) G8 w8 G8 w') (fun e _ => ls[j].length - (intOf (e 13)).toNat)
          ⟨0, by omega, by simp [upd, updO, ev], by simp [upd, updO, ev, e12], by simp [upd, updO, ev, e5], by simp [upd, updO, ev, e1], by simp [upd, updO, ev, e7], by simp [upd, updO, ev, e11], hout9, hrows9, hx9⟩ ?_
        clear e12 e5 e1 e7 e11
        rintro e w10 ⟨t, ht, e13, e12, e5, e1, e7, e11, hout10, hrows10, hx10⟩
        have hvl : vs.length = ls.length := by simpa using hout10.1
        obtain ⟨pa, hpa, hpac, _⟩ := (Has.own hout10).idx (i := j) (by omega)
        obtain ⟨xs, hxs⟩ := hrows10 j (by omega) hjl
        have hlu : ∀ w', lenF w' 0 (vs[j]'(by omega)) = some (.int .i64 ls[j].length) := fun w' => by rw [(Has.own hxs).len]; have : xs.length = ls[j].length := (by simpa using hxs.1); rw [this]
        by_cases htl : t < ls[j].length
        · obtain ⟨a, w11, ha, hst, hk11, hob, hall11⟩ := own_storeA hxs htl (u := .int .u8 (((k : Int) + 1) % 256)) rfl
          obtain ⟨cur, hcur⟩ := own_cells hxs hob
          simp (maxSteps := 1000000) (disch := omega) only [F8_L1, ↓sy1, sy2, sy3, readOK, implies_true, forall_const, Nat.reduceEqDiff, ↓reduceIte, Option.map_some, Option.map_none, List.map_cons, List.map_nil, oneOf, if_true, if_false, Nat.reduceAdd, Nat.reduceMul, Option.isNone_some, Option.isNone_none, List.getElem?_toArray, List.getElem?_cons_zero, List.getElem?_cons_succ, reduceCtorEq, e13, e12, e5, e1, e7, e11, hpa, hpac, hlu, Int.ofNat_lt, htl, decide_true, ha, hst]
          have hx11 : Ext (fun c => c = 3) G8 w10 G8 w11 := .on0 hk11 (hmk8 j (by omega) a.block hob).1 (hmk8 j (by omega) a.block hob).2
          refine R_out ⟨⟨t + 1, by omega, rfl, own_keepT hout10 hk11 hcur (by decide), fun q h1 h2 => (hrows10 q h1 h2).elim fun _ hx => hall11 _ _ _ _ hx, hx10.trans hx11⟩, ?_⟩
          simp only [intOf]; omega
        · simp (maxSteps := 1000000) (disch := omega) only [F8_L1, ↓sy1, sy2, sy3, readOK, implies_true, forall_const, Nat.reduceEqDiff, ↓reduceIte, Option.map_some, Option.map_none, List.map_cons, List.map_nil, oneOf, if_true, if_false, Nat.reduceAdd, Nat.reduceMul, Option.isNone_some, Option.isNone_none, List.getElem?_toArray, List.getElem?_cons_zero, List.getElem?_cons_succ, reduceCtorEq, e13, e12, e5, e1, e7, e11, hpa, hpac, hlu, Int.ofNat_lt, htl, decide_false]
          refine R_out ⟨⟨j + 1, by omega, rfl, hout10, hrows10, hx10⟩, ?_⟩
          simp only [intOf]; omega
      · simp (maxSteps := 1000000) (disch := omega) only [F8_L2, ↓sy1, sy2, sy3, readOK, implies_true, forall_const, Nat.reduceEqDiff, ↓reduceIte, Option.map_some, Option.map_none, List.map_cons, List.map_nil, oneOf, if_true, if_false, Nat.reduceAdd, Nat.reduceMul, Option.isNone_some, Option.isNone_none, List.getElem?_toArray, List.getElem?_cons_zero, List.getElem?_cons_succ, reduceCtorEq, e12, e5, e1, e7, e11, hlo, Int.ofNat_lt, hjl, decide_false]
        have hxall : Ext Mine G00 w G8 w9 := ((hxm.trans hx18).mono (fun _ h => h.elim)).trans (hx9.mono (fun c h => by omega))
        rw [hdv]
        refine call0 image_nil ?_
        rintro _ w12 ⟨rfl, rfl⟩
        rw [hwv] at e11
        simp (maxSteps := 1000000) (disch := omega) only [↓sy1, sy2, sy3, readOK, implies_true, forall_const, Nat.reduceEqDiff, ↓reduceIte, Option.map_some, Option.map_none, List.map_cons, List.map_nil, oneOf, if_true, if_false, Nat.reduceAdd, Nat.reduceMul, Option.isNone_some, Option.isNone_none, List.getElem?_toArray, List.getElem?_cons_zero, List.getElem?_cons_succ, reduceCtorEq, e12, e5, e1, e7, e11, hdv]
        refine call0 (sameAll_spec _ _ [] [] _ (HasR.nil _) (HasR.nil _) (by simp) (fun b hb => by cases hb)) ?_
        rintro _ w13 ⟨rfl, hg13⟩
        simp (maxSteps := 1000000) (disch := omega) only [↓sy1, sy2, sy3, readOK, implies_true, forall_const, Nat.reduceEqDiff, ↓reduceIte, Option.map_some, Option.map_none, List.map_cons, List.map_nil, oneOf, if_true, if_false, Nat.reduceAdd, Nat.reduceMul, Option.isNone_some, Option.isNone_none, List.getElem?_toArray, List.getElem?_cons_zero, List.getElem?_cons_succ, reduceCtorEq, e12, e5, e1, e7, e11, hdv, decide_true]
        refine call0 ops_nil ?_
        rintro _ w14 ⟨rfl, rfl⟩
        simp (maxSteps := 1000000) (disch := omega) only [↓sy1, sy2, sy3, readOK, implies_true, forall_const, Nat.reduceEqDiff, ↓reduceIte, Option.map_some, Option.map_none, List.map_cons, List.map_nil, oneOf, if_true, if_false, Nat.reduceAdd, Nat.reduceMul, Option.isNone_some, Option.isNone_none, List.getElem?_toArray, List.getElem?_cons_zero, List.getElem?_cons_succ, reduceCtorEq, decide_true]
        exact R_out ((hxall.toGrow (by simp)).trans hg13)
    · have h1 : 1 ≤ ls.length := by omega
      have h2 : ls.length ≤ 4096 := by omega
      refine call0 (load_spec (G := Gm) 1 hHas (by omega) hsmall) ?_
      rintro _ w2 hl2
      obtain ⟨p, G2, rfl, hp2, hd2, hx2⟩ := (hl2).2.2 h1 h2 hall
      simp (maxSteps := 1000000) (disch := omega) only [↓sy1, sy2, sy3, readOK, implies_true, forall_const, Nat.reduceEqDiff, ↓reduceIte, Option.map_some, Option.map_none, List.map_cons, List.map_nil, oneOf, if_true, if_false, Nat.reduceAdd, Nat.reduceMul, Option.isNone_some, Option.isNone_none, List.getElem?_toArray, List.getElem?_cons_zero, List.getElem?_cons_succ, reduceCtorEq, e6, e0, e1, e5]
      refine call0 (rload_spec (G := G2) 2 (hHas.grow hx2.growG) (by omega) hsmall) ?_
      rintro _ w3 hl3
      obtain ⟨r, G3, rfl, hr3, hrd3, hx3⟩ := (hl3).2.2 h1 h2 hall
      simp (maxSteps := 1000000) (disch := omega) only [↓sy1, sy2, sy3, readOK, implies_true, forall_const, Nat.reduceEqDiff, ↓reduceIte, Option.map_some, Option.map_none, List.map_cons, List.map_nil, oneOf, if_true, if_false, Nat.reduceAdd, Nat.reduceMul, Option.isNone_some, Option.isNone_none, List.getElem?_toArray, List.getElem?_cons_zero, List.getElem?_cons_succ, reduceCtorEq, e6, e0, e1, e5]
      refine call0 (live_spec _) ?_
      rintro _ w4 ⟨rfl, hg4⟩
      simp (maxSteps := 1000000) (disch := omega) only [↓sy1, sy2, sy3, readOK, implies_true, forall_const, Nat.reduceEqDiff, ↓reduceIte, Option.map_some, Option.map_none, List.map_cons, List.map_nil, oneOf, if_true, if_false, Nat.reduceAdd, Nat.reduceMul, Option.isNone_some, Option.isNone_none, List.getElem?_toArray, List.getElem?_cons_zero, List.getElem?_cons_succ, reduceCtorEq, e6, e0, e1, e5, decide_true, beq_self_eq_true, Bool.not_true]
      have hrd4 := hrd3.grow hg4
      refine call0 (rimage_spec hrd4) ?_
      rintro wasv w8 ⟨hwas, hg8⟩
      have himg : (⟨ls, []⟩ : Dsk).image = ls := by simp [Dsk.image, Dsk.safe_new, Dsk.wait_new, flushed_none]
      rw [himg] at hwas
      have hx4 : Ext0 G3 w3 (G3.new w3.heap.size) w8 := .newB (hg4.trans hg8)
      have hnew8 : ∀ b, w3.heap.size ≤ b → ¬ (G3.new w3.heap.size).own b = 3 := fun b hb => by rw [Gh.new_own hb]; omega
      have hx18 : Ext0 Gm w1 (G3.new w3.heap.size) w8 := (hx2.trans hx3).trans hx4
      have hd8 := (hd2.ext hx3 id).ext hx4 id
      generalize G3.new w3.heap.size = G8 at hx4 hx18 hd8 hnew8
      obtain ⟨dv, hdv⟩ : ∃ v, v = Value.pointer (some ⟨p, 0, none⟩) := ⟨_, rfl⟩
      obtain ⟨wv0, hwv⟩ : ∃ v, v = wasv := ⟨_, rfl⟩
      simp (maxSteps := 1000000) (disch := omega) only [↓sy1, sy2, sy3, readOK, implies_true, forall_const, Nat.reduceEqDiff, ↓reduceIte, Option.map_some, Option.map_none, List.map_cons, List.map_nil, oneOf, if_true, if_false, Nat.reduceAdd, Nat.reduceMul, Option.isNone_some, Option.isNone_none, List.getElem?_toArray, List.getElem?_cons_zero, List.getElem?_cons_succ, reduceCtorEq, e6, e0, e1, e5]
      have hmk8 : ∀ j (h : j < vs.length), ∀ b, vs[j].ownBlock = some b → G8.own b = 3 ∧ G8.fix b = 0 := fun j h b hb => by
        obtain ⟨q1, q2, q3⟩ := hmk j h b hb
        first | exact ⟨(hx18.own b q3).trans q1, (hx18.fixe b q3 id).trans q2⟩ | (rw [hG8]; exact ⟨q1, q2⟩)
      have hout8 := own_grow hown hx18.growG
      have hrows8 : OwnL w.heap.size _ vs ls := hrowsL.keep hx18.growG (fun _ _ => id)
      have hbound : ls.length ≤ 20 := by omega
      refine loop_rule (fun e w' => ∃ j : Nat, j ≤ ls.length ∧ e 12 = .int .i64 j ∧ e 5 = out ∧ e 1 = .int .u8 k ∧ e 7 = dv ∧ e 11 = wv0 ∧ w'.ownsRow w.heap.size 37 1 out ls.length vs ∧ OwnL w.heap.size w' vs ls ∧ Ext (fun c => c = 3) G8 w8 G8 w') (fun e _ => ls.length - (intOf (e 12)).toNat)
        ⟨0, by omega, by simp [upd, updO, ev], by simp [upd, updO, ev, e5], by simp [upd, updO, ev, e1], by simp [upd, updO, ev, hdv], by simp [upd, updO, ev, hwv], hout8, hrows8, .refl _ _ _⟩ ?_
      clear e6 e0 e1 e5
      rintro e w9 ⟨j, hj, e12, e5, e1, e7, e11, hout9, hrows9, hx9⟩
      have hlo : ∀ w', lenF w' 0 out = some (.int .i64 ls.length) := fun w' => by rw [(Has.own hout9).len]; have : vs.length = ls.length := (by simpa using hout9.1); rw [this]
      by_cases hjl : j < ls.length
      · simp (maxSteps := 1000000) (disch := omega) only [F8_L2, ↓sy1, sy2, sy3, readOK, implies_true, forall_const, Nat.reduceEqDiff, ↓reduceIte, Option.map_some, Option.map_none, List.map_cons, List.map_nil, oneOf, if_true, if_false, Nat.reduceAdd, Nat.reduceMul, Option.isNone_some, Option.isNone_none, List.getElem?_toArray, List.getElem?_cons_zero, List.getElem?_cons_succ, reduceCtorEq, e12, e5, e1, e7, e11, hlo, Int.ofNat_lt, hjl, decide_true]
        have hll : ls[j].length ≤ 1048576 := hsmall _ (List.getElem_mem hjl)
        refine loop_rule (fun e w' => ∃ t : Nat, t ≤ ls[j].length ∧ e 13 = .int .i64 t ∧ e 12 = .int .i64 j ∧ e 5 = out ∧ e 1 = .int .u8 k ∧ e 7 = dv ∧ e 11 = wv0 ∧ w'.ownsRow w.heap.size 37 1 out ls.length vs ∧ OwnL w.heap.size w' vs ls ∧ Ext (fun c => c = 3) G8 w8 G8 w') (fun e _ => ls[j].length - (intOf (e 13)).toNat)
          ⟨0, by omega, by simp [upd, updO, ev], by simp [upd, updO, ev, e12], by simp [upd, updO, ev, e5], by simp [upd, updO, ev, e1], by simp [upd, updO, ev, e7], by simp [upd, updO, ev, e11], hout9, hrows9, hx9⟩ ?_
        clear e12 e5 e1 e7 e11
        rintro e w10 ⟨t, ht, e13, e12, e5, e1, e7, e11, hout10, hrows10, hx10⟩
        have hvl : vs.length = ls.length := by simpa using hout10.1
        obtain ⟨pa, hpa, hpac, _⟩ := (Has.own hout10).idx (i := j) (by omega)
        obtain ⟨xs, hxs⟩ := hrows10 j (by omega) hjl
        have hlu : ∀ w', lenF w' 0 (vs[j]'(by omega)) = some (.int .i64 ls[j].length) := fun w' => by rw [(Has.own hxs).len]; have : xs.length = ls[j].length := (by simpa using hxs.1); rw [this]
        by_cases htl : t < ls[j].length
        · obtain ⟨a, w11, ha, hst, hk11, hob, hall11⟩ := own_storeA hxs htl (u := .int .u8 (((k : Int) + 1) % 256)) rfl
          obtain ⟨cur, hcur⟩ := own_cells hxs hob
          simp (maxSteps := 1000000) (disch := omega) only [F8_L1, ↓sy1, sy2, sy3, readOK, implies_true, forall_const, Nat.reduceEqDiff, ↓reduceIte, Option.map_some, Option.map_none, List.map_cons, List.map_nil, oneOf, if_true, if_false, Nat.reduceAdd, Nat.reduceMul, Option.isNone_some, Option.isNone_none, List.getElem?_toArray, List.getElem?_cons_zero, List.getElem?_cons_succ, reduceCtorEq, e13, e12, e5, e1, e7, e11, hpa, hpac, hlu, Int.ofNat_lt, htl, decide_true, ha, hst]
          have hx11 : Ext (fun c => c = 3) G8 w10 G8 w11 := .on0 hk11 (hmk8 j (by omega) a.block hob).1 (hmk8 j (by omega) a.block hob).2
          refine R_out ⟨⟨t + 1, by omega, rfl, own_keepT hout10 hk11 hcur (by decide), fun q h1 h2 => (hrows10 q h1 h2).elim fun _ hx => hall11 _ _ _ _ hx, hx10.trans hx11⟩, ?_⟩
          simp only [intOf]; omega
        · simp (maxSteps := 1000000) (disch := omega) only [F8_L1, ↓sy1, sy2, sy3, readOK, implies_true, forall_const, Nat.reduceEqDiff, ↓reduceIte, Option.map_some, Option.map_none, List.map_cons, List.map_nil, oneOf, if_true, if_false, Nat.reduceAdd, Nat.reduceMul, Option.isNone_some, Option.isNone_none, List.getElem?_toArray, List.getElem?_cons_zero, List.getElem?_cons_succ, reduceCtorEq, e13, e12, e5, e1, e7, e11, hpa, hpac, hlu, Int.ofNat_lt, htl, decide_false]
          refine R_out ⟨⟨j + 1, by omega, rfl, hout10, hrows10, hx10⟩, ?_⟩
          simp only [intOf]; omega
      · simp (maxSteps := 1000000) (disch := omega) only [F8_L2, ↓sy1, sy2, sy3, readOK, implies_true, forall_const, Nat.reduceEqDiff, ↓reduceIte, Option.map_some, Option.map_none, List.map_cons, List.map_nil, oneOf, if_true, if_false, Nat.reduceAdd, Nat.reduceMul, Option.isNone_some, Option.isNone_none, List.getElem?_toArray, List.getElem?_cons_zero, List.getElem?_cons_succ, reduceCtorEq, e12, e5, e1, e7, e11, hlo, Int.ofNat_lt, hjl, decide_false]
        have hxall : Ext Mine G00 w G8 w9 := ((hxm.trans hx18).mono (fun _ h => h.elim)).trans (hx9.mono (fun c h => by omega))
        rw [hdv]
        have hd9 := hd8.ext hx9 (by omega)
        have hwas9 := hwas.keep hx9.keep (fun b hb => hnew8 b (Nat.le_trans hg4.size hb))
        refine call0 (image_spec hd9) ?_
        rintro iv w12 ⟨hiv, hg12⟩
        rw [himg] at hiv
        rw [hwv] at e11
        simp (maxSteps := 1000000) (disch := omega) only [↓sy1, sy2, sy3, readOK, implies_true, forall_const, Nat.reduceEqDiff, ↓reduceIte, Option.map_some, Option.map_none, List.map_cons, List.map_nil, oneOf, if_true, if_false, Nat.reduceAdd, Nat.reduceMul, Option.isNone_some, Option.isNone_none, List.getElem?_toArray, List.getElem?_cons_zero, List.getElem?_cons_succ, reduceCtorEq, e12, e5, e1, e7, e11, hdv]
        refine call0 (sameAll_spec iv wasv _ _ w12 hiv.has ((hwas9.grow hg12).has) (by omega) hsmall) ?_
        rintro _ w13 ⟨rfl, hg13⟩
        simp (maxSteps := 1000000) (disch := omega) only [↓sy1, sy2, sy3, readOK, implies_true, forall_const, Nat.reduceEqDiff, ↓reduceIte, Option.map_some, Option.map_none, List.map_cons, List.map_nil, oneOf, if_true, if_false, Nat.reduceAdd, Nat.reduceMul, Option.isNone_some, Option.isNone_none, List.getElem?_toArray, List.getElem?_cons_zero, List.getElem?_cons_succ, reduceCtorEq, e12, e5, e1, e7, e11, hdv, decide_true]
        refine call0 (ops_spec ((hd9.grow hg12).grow hg13)) ?_
        rintro _ w14 ⟨rfl, rfl⟩
        simp (maxSteps := 1000000) (disch := omega) only [↓sy1, sy2, sy3, readOK, implies_true, forall_const, Nat.reduceEqDiff, ↓reduceIte, Option.map_some, Option.map_none, List.map_cons, List.map_nil, oneOf, if_true, if_false, Nat.reduceAdd, Nat.reduceMul, Option.isNone_some, Option.isNone_none, List.getElem?_toArray, List.getElem?_cons_zero, List.getElem?_cons_succ, reduceCtorEq, decide_true, List.length_nil, Int.natCast_zero]
        exact R_out (((hxall.toGrow (by simp)).trans hg12).trans hg13)
  · simp (maxSteps := 1000000) (disch := omega) only [F8_L0, ↓sy1, sy2, sy3, readOK, implies_true, forall_const, Nat.reduceEqDiff, ↓reduceIte, Option.map_some, Option.map_none, List.map_cons, List.map_nil, oneOf, if_true, if_false, Nat.reduceAdd, Nat.reduceMul, Option.isNone_some, Option.isNone_none, List.getElem?_toArray, List.getElem?_cons_zero, List.getElem?_cons_succ, reduceCtorEq, e6, e0, e1, e5, hz.lenI, Int.ofNat_lt, hlt, decide_true, decide_false]
    rcases hcase with hs | ⟨hone, hall⟩ | ⟨hone, hall⟩
    · have h1 : ls.length < 1 := by omega
      refine call0 (load_spec (G := Gm) 1 hHas (by omega) hsmall) ?_
      rintro _ w2 hl2
      obtain ⟨rfl, rfl⟩ := (hl2).1 (.inl h1)
      simp (maxSteps := 1000000) (disch := omega) only [↓sy1, sy2, sy3, readOK, implies_true, forall_const, Nat.reduceEqDiff, ↓reduceIte, Option.map_some, Option.map_none, List.map_cons, List.map_nil, oneOf, if_true, if_false, Nat.reduceAdd, Nat.reduceMul, Option.isNone_some, Option.isNone_none, List.getElem?_toArray, List.getElem?_cons_zero, List.getElem?_cons_succ, reduceCtorEq, e6, e0, e1, e5]
      refine call0 (rload_spec (G := Gm) 2 hHas (by omega) hsmall) ?_
      rintro _ w3 hl3
      obtain ⟨rfl, rfl⟩ := (hl3).1 (.inl h1)
      simp (maxSteps := 1000000) (disch := omega) only [↓sy1, sy2, sy3, readOK, implies_true, forall_const, Nat.reduceEqDiff, ↓reduceIte, Option.map_some, Option.map_none, List.map_cons, List.map_nil, oneOf, if_true, if_false, Nat.reduceAdd, Nat.reduceMul, Option.isNone_some, Option.isNone_none, List.getElem?_toArray, List.getElem?_cons_zero, List.getElem?_cons_succ, reduceCtorEq, e6, e0, e1, e5]
      refine call0 (live_spec _) ?_
      rintro _ w4 ⟨rfl, hg4⟩
      simp (maxSteps := 1000000) (disch := omega) only [↓sy1, sy2, sy3, readOK, implies_true, forall_const, Nat.reduceEqDiff, ↓reduceIte, Option.map_some, Option.map_none, List.map_cons, List.map_nil, oneOf, if_true, if_false, Nat.reduceAdd, Nat.reduceMul, Option.isNone_some, Option.isNone_none, List.getElem?_toArray, List.getElem?_cons_zero, List.getElem?_cons_succ, reduceCtorEq, e6, e0, e1, e5, decide_true, beq_self_eq_true, Bool.not_true]
      refine call0 rimage_nil ?_
      rintro _ w8 ⟨rfl, rfl⟩
      have hx18 : Ext0 Gm _ Gm _ := Ext.grow hg4
      obtain ⟨G8, hG8⟩ : ∃ G, G = Gm := ⟨_, rfl⟩
      rw [← hG8] at hx18
      obtain ⟨dv, hdv⟩ : ∃ v, v = Value.pointer none := ⟨_, rfl⟩
      obtain ⟨wasv, hwv⟩ : ∃ v, v = Value.slice none 0 0 := ⟨_, rfl⟩
      simp (maxSteps := 1000000) (disch := omega) only [↓sy1, sy2, sy3, readOK, implies_true, forall_const, Nat.reduceEqDiff, ↓reduceIte, Option.map_some, Option.map_none, List.map_cons, List.map_nil, oneOf, if_true, if_false, Nat.reduceAdd, Nat.reduceMul, Option.isNone_some, Option.isNone_none, List.getElem?_toArray, List.getElem?_cons_zero, List.getElem?_cons_succ, reduceCtorEq, e6, e0, e1, e5]
      rw [← hG8] at hxm
      have hmk8 : ∀ j (h : j < vs.length), ∀ b, vs[j].ownBlock = some b → G8.own b = 3 ∧ G8.fix b = 0 := fun j h b hb => by
        obtain ⟨q1, q2, q3⟩ := hmk j h b hb
        first | exact ⟨(hx18.own b q3).trans q1, (hx18.fixe b q3 id).trans q2⟩ | (rw [hG8]; exact ⟨q1, q2⟩)
      have hout8 := own_grow hown hx18.growG
      have hrows8 : OwnL w.heap.size _ vs ls := hrowsL.keep hx18.growG (fun _ _ => id)
      have hbound : ls.length ≤ 20 := by omega
      refine loop_rule (fun e w' => ∃ j : Nat, j ≤ ls.length ∧ e 12 = .int .i64 j ∧ e 5 = out ∧ e 1 = .int .u8 k ∧ e 7 = dv ∧ e 11 = wasv ∧ w'.ownsRow w.heap.size 37 1 out ls.length vs ∧ OwnL w.heap.size w' vs ls ∧ Ext (fun c => c = 3) G8 w8 G8 w') (fun e _ => ls.length - (intOf (e 12)).toNat)
        ⟨0, by omega, by simp [upd, updO, ev], by simp [upd, updO, ev, e5], by simp [upd, updO, ev, e1], by simp [upd, updO, ev, hdv], by simp [upd, updO, ev, hwv], hout8, hrows8, .refl _ _ _⟩ ?_
      clear e6 e0 e1 e5
      rintro e w9 ⟨j, hj, e12, e5, e1, e7, e11, hout9, hrows9, hx9⟩
      have hlo : ∀ w', lenF w' 0 out = some (.int .i64 ls.length) := fun w' => by rw [(Has.own hout9).len]; have : vs.length = ls.length := (by simpa using hout9.1); rw [this]
      by_cases hjl : j < ls.length
      · simp (maxSteps := 1000000) (disch := omega) only [F8_L2, ↓sy1, sy2, sy3, readOK, implies_true, forall_const, Nat.reduceEqDiff, ↓reduceIte, Option.map_some, Option.map_none, List.map_cons, List.map_nil, oneOf, if_true, if_false, Nat.reduceAdd, Nat.reduceMul, Option.isNone_some, Option.isNone_none, List.getElem?_toArray, List.getElem?_cons_zero, List.getElem?_cons_succ, reduceCtorEq, e12, e5, e1, e7, e11, hlo, Int.ofNat_lt, hjl, decide_true]
        have hll : ls[j].length ≤ 1048576 := hsmall _ (List.getElem_mem hjl)
        refine loop_rule (fun e w' => ∃ t : Nat, t ≤ ls[j].length ∧ e 13 = .int .i64 t ∧ e 12 = .int .i64 j ∧ e 5 = out ∧ e 1 = .int .u8 k ∧ e 7 = dv ∧ e 11 = wasv ∧ w'.ownsRow w.heap.size 37 1 out ls.length vs ∧ OwnL w.heap.size w' vs ls ∧ Ext (fun c => c = 3) G8 w8 G8 w') (fun e _ => ls[j].length - (intOf (e 13)).toNat)
          ⟨0, by omega, by simp [upd, updO, ev], by simp [upd, updO, ev, e12], by simp [upd, updO, ev, e5], by simp [upd, updO, ev, e1], by simp [upd, updO, ev, e7], by simp [upd, updO, ev, e11], hout9, hrows9, hx9⟩ ?_
        clear e12 e5 e1 e7 e11
        rintro e w10 ⟨t, ht, e13, e12, e5, e1, e7, e11, hout10, hrows10, hx10⟩
        have hvl : vs.length = ls.length := by simpa using hout10.1
        obtain ⟨pa, hpa, hpac, _⟩ := (Has.own hout10).idx (i := j) (by omega)
        obtain ⟨xs, hxs⟩ := hrows10 j (by omega) hjl
        have hlu : ∀ w', lenF w' 0 (vs[j]'(by omega)) = some (.int .i64 ls[j].length) := fun w' => by rw [(Has.own hxs).len]; have : xs.length = ls[j].length := (by simpa using hxs.1); rw [this]
        by_cases htl : t < ls[j].length
        · obtain ⟨a, w11, ha, hst, hk11, hob, hall11⟩ := own_storeA hxs htl (u := .int .u8 (((k : Int) + 1) % 256)) rfl
          obtain ⟨cur, hcur⟩ := own_cells hxs hob
          simp (maxSteps := 1000000) (disch := omega) only [F8_L1, ↓sy1, sy2, sy3, readOK, implies_true, forall_const, Nat.reduceEqDiff, ↓reduceIte, Option.map_some, Option.map_none, List.map_cons, List.map_nil, oneOf, if_true, if_false, Nat.reduceAdd, Nat.reduceMul, Option.isNone_some, Option.isNone_none, List.getElem?_toArray, List.getElem?_cons_zero, List.getElem?_cons_succ, reduceCtorEq, e13, e12, e5, e1, e7, e11, hpa, hpac, hlu, Int.ofNat_lt, htl, decide_true, ha, hst]
          have hx11 : Ext (fun c => c = 3) G8 w10 G8 w11 := .on0 hk11 (hmk8 j (by omega) a.block hob).1 (hmk8 j (by omega) a.block hob).2
          refine R_out ⟨⟨t + 1, by omega, rfl, own_keepT hout10 hk11 hcur (by decide), fun q h1 h2 => (hrows10 q h1 h2).elim fun _ hx => hall11 _ _ _ _ hx, hx10.trans hx11⟩, ?_⟩
          simp only [intOf]; omega
        · simp (maxSteps := 1000000) (disch := omega) only [F8_L1, ↓sy1, sy2, sy3, readOK, implies_true, forall_const, Nat.reduceEqDiff, ↓reduceIte, Option.map_some, Option.map_none, List.map_cons, List.map_nil, oneOf, if_true, if_false, Nat.reduceAdd, Nat.reduceMul, Option.isNone_some, Option.isNone_none, List.getElem?_toArray, List.getElem?_cons_zero, List.getElem?_cons_succ, reduceCtorEq, e13, e12, e5, e1, e7, e11, hpa, hpac, hlu, Int.ofNat_lt, htl, decide_false]
          refine R_out ⟨⟨j + 1, by omega, rfl, hout10, hrows10, hx10⟩, ?_⟩
          simp only [intOf]; omega
      · simp (maxSteps := 1000000) (disch := omega) only [F8_L2, ↓sy1, sy2, sy3, readOK, implies_true, forall_const, Nat.reduceEqDiff, ↓reduceIte, Option.map_some, Option.map_none, List.map_cons, List.map_nil, oneOf, if_true, if_false, Nat.reduceAdd, Nat.reduceMul, Option.isNone_some, Option.isNone_none, List.getElem?_toArray, List.getElem?_cons_zero, List.getElem?_cons_succ, reduceCtorEq, e12, e5, e1, e7, e11, hlo, Int.ofNat_lt, hjl, decide_false]
        have hxall : Ext Mine G00 w G8 w9 := ((hxm.trans hx18).mono (fun _ h => h.elim)).trans (hx9.mono (fun c h => by omega))
        rw [hdv]
        refine call0 image_nil ?_
        rintro _ w12 ⟨rfl, rfl⟩
        rw [hwv] at e11
        simp (maxSteps := 1000000) (disch := omega) only [↓sy1, sy2, sy3, readOK, implies_true, forall_const, Nat.reduceEqDiff, ↓reduceIte, Option.map_some, Option.map_none, List.map_cons, List.map_nil, oneOf, if_true, if_false, Nat.reduceAdd, Nat.reduceMul, Option.isNone_some, Option.isNone_none, List.getElem?_toArray, List.getElem?_cons_zero, List.getElem?_cons_succ, reduceCtorEq, e12, e5, e1, e7, e11, hdv]
        refine call0 (sameAll_spec _ _ [] [] _ (HasR.nil _) (HasR.nil _) (by simp) (fun b hb => by cases hb)) ?_
        rintro _ w13 ⟨rfl, hg13⟩
        simp (maxSteps := 1000000) (disch := omega) only [↓sy1, sy2, sy3, readOK, implies_true, forall_const, Nat.reduceEqDiff, ↓reduceIte, Option.map_some, Option.map_none, List.map_cons, List.map_nil, oneOf, if_true, if_false, Nat.reduceAdd, Nat.reduceMul, Option.isNone_some, Option.isNone_none, List.getElem?_toArray, List.getElem?_cons_zero, List.getElem?_cons_succ, reduceCtorEq, e12, e5, e1, e7, e11, hdv, decide_true]
        refine call0 ops_nil ?_
        rintro _ w14 ⟨rfl, rfl⟩
        simp (maxSteps := 1000000) (disch := omega) only [↓sy1, sy2, sy3, readOK, implies_true, forall_const, Nat.reduceEqDiff, ↓reduceIte, Option.map_some, Option.map_none, List.map_cons, List.map_nil, oneOf, if_true, if_false, Nat.reduceAdd, Nat.reduceMul, Option.isNone_some, Option.isNone_none, List.getElem?_toArray, List.getElem?_cons_zero, List.getElem?_cons_succ, reduceCtorEq, decide_true]
        exact R_out ((hxall.toGrow (by simp)).trans hg13)
    · have h1 : 1 ≤ ls.length := by omega
      have h2 : ls.length ≤ 4096 := by omega
      refine call0 (load_spec (G := Gm) 1 hHas (by omega) hsmall) ?_
      rintro _ w2 hl2
      obtain ⟨rfl, rfl⟩ := (hl2).2.1 h1 h2 hall
      simp (maxSteps := 1000000) (disch := omega) only [↓sy1, sy2, sy3, readOK, implies_true, forall_const, Nat.reduceEqDiff, ↓reduceIte, Option.map_some, Option.map_none, List.map_cons, List.map_nil, oneOf, if_true, if_false, Nat.reduceAdd, Nat.reduceMul, Option.isNone_some, Option.isNone_none, List.getElem?_toArray, List.getElem?_cons_zero, List.getElem?_cons_succ, reduceCtorEq, e6, e0, e1, e5]
      refine call0 (rload_spec (G := Gm) 2 hHas (by omega) hsmall) ?_
      rintro _ w3 hl3
      obtain ⟨rfl, rfl⟩ := (hl3).2.1 h1 h2 hall
      simp (maxSteps := 1000000) (disch := omega) only [↓sy1, sy2, sy3, readOK, implies_true, forall_const, Nat.reduceEqDiff, ↓reduceIte, Option.map_some, Option.map_none, List.map_cons, List.map_nil, oneOf, if_true, if_false, Nat.reduceAdd, Nat.reduceMul, Option.isNone_some, Option.isNone_none, List.getElem?_toArray, List.getElem?_cons_zero, List.getElem?_cons_succ, reduceCtorEq, e6, e0, e1, e5]
      refine call0 (live_spec _) ?_
      rintro _ w4 ⟨rfl, hg4⟩
      simp (maxSteps := 1000000) (disch := omega) only [↓sy1, sy2, sy3, readOK, implies_true, forall_const, Nat.reduceEqDiff, ↓reduceIte, Option.map_some, Option.map_none, List.map_cons, List.map_nil, oneOf, if_true, if_false, Nat.reduceAdd, Nat.reduceMul, Option.isNone_some, Option.isNone_none, List.getElem?_toArray, List.getElem?_cons_zero, List.getElem?_cons_succ, reduceCtorEq, e6, e0, e1, e5, decide_true, beq_self_eq_true, Bool.not_true]
      refine call0 rimage_nil ?_
      rintro _ w8 ⟨rfl, rfl⟩
      have hx18 : Ext0 Gm _ Gm _ := Ext.grow hg4
      obtain ⟨G8, hG8⟩ : ∃ G, G = Gm := ⟨_, rfl⟩
      rw [← hG8] at hx18
      obtain ⟨dv, hdv⟩ : ∃ v, v = Value.pointer none := ⟨_, rfl⟩
      obtain ⟨wasv, hwv⟩ : ∃ v, v = Value.slice none 0 0 := ⟨_, rfl⟩
      simp (maxSteps := 1000000) (disch := omega) only [↓sy1, sy2, sy3, readOK, implies_true, forall_const, Nat.reduceEqDiff, ↓reduceIte, Option.map_some, Option.map_none, List.map_cons, List.map_nil, oneOf, if_true, if_false, Nat.reduceAdd, Nat.reduceMul, Option.isNone_some, Option.isNone_none, List.getElem?_toArray, List.getElem?_cons_zero, List.getElem?_cons_succ, reduceCtorEq, e6, e0, e1, e5]
      rw [← hG8] at hxm
      have hmk8 : ∀ j (h : j < vs.length), ∀ b, vs[j].ownBlock = some b → G8.own b = 3 ∧ G8.fix b = 0 := fun j h b hb => by
        obtain ⟨q1, q2, q3⟩ := hmk j h b hb
        first | exact ⟨(hx18.own b q3).trans q1, (hx18.fixe b q3 id).trans q2⟩ | (rw [hG8]; exact ⟨q1, q2⟩)
      have hout8 := own_grow hown hx18.growG
      have hrows8 : OwnL w.heap.size _ vs ls := hrowsL.keep hx18.growG (fun _ _ => id)
      have hbound : ls.length ≤ 20 := by omega
      refine loop_rule (fun e w' => ∃ j : Nat, j ≤ ls.length ∧ e 12 = .int .i64 j ∧ e 5 = out ∧ e 1 = .int .u8 k ∧ e 7 = dv ∧ e 11 = wasv ∧ w'.ownsRow w.heap.size 37 1 out ls.length vs ∧ OwnL w.heap.size w' vs ls ∧ Ext (fun c => c = 3) G8 w8 G8 w') (fun e _ => ls.length - (intOf (e 12)).toNat)
        ⟨0, by omega, by simp [upd, updO, ev], by simp [upd, updO, ev, e5], by simp [upd, updO, ev, e1], by simp [upd, updO, ev, hdv], by simp [upd, updO, ev, hwv], hout8, hrows8, .refl _ _ _⟩ ?_
      clear e6 e0 e1 e5
      rintro e w9 ⟨j, hj, e12, e5, e1, e7, e11, hout9, hrows9, hx9⟩
      have hlo : ∀ w', lenF w' 0 out = some (.int .i64 ls.length) := fun w' => by rw [(Has.own hout9).len]; have : vs.length = ls.length := (by simpa using hout9.1); rw [this]
      by_cases hjl : j < ls.length
      · simp (maxSteps := 1000000) (disch := omega) only [F8_L2, ↓sy1, sy2, sy3, readOK, implies_true, forall_const, Nat.reduceEqDiff, ↓reduceIte, Option.map_some, Option.map_none, List.map_cons, List.map_nil, oneOf, if_true, if_false, Nat.reduceAdd, Nat.reduceMul, Option.isNone_some, Option.isNone_none, List.getElem?_toArray, List.getElem?_cons_zero, List.getElem?_cons_succ, reduceCtorEq, e12, e5, e1, e7, e11, hlo, Int.ofNat_lt, hjl, decide_true]
        have hll : ls[j].length ≤ 1048576 := hsmall _ (List.getElem_mem hjl)
        refine loop_rule (fun e w' => ∃ t : Nat, t ≤ ls[j].length ∧ e 13 = .int .i64 t ∧ e 12 = .int .i64 j ∧ e 5 = out ∧ e 1 = .int .u8 k ∧ e 7 = dv ∧ e 11 = wasv ∧ w'.ownsRow w.heap.size 37 1 out ls.length vs ∧ OwnL w.heap.size w' vs ls ∧ Ext (fun c => c = 3) G8 w8 G8 w') (fun e _ => ls[j].length - (intOf (e 13)).toNat)
          ⟨0, by omega, by simp [upd, updO, ev], by simp [upd, updO, ev, e12], by simp [upd, updO, ev, e5], by simp [upd, updO, ev, e1], by simp [upd, updO, ev, e7], by simp [upd, updO, ev, e11], hout9, hrows9, hx9⟩ ?_
        clear e12 e5 e1 e7 e11
        rintro e w10 ⟨t, ht, e13, e12, e5, e1, e7, e11, hout10, hrows10, hx10⟩
        have hvl : vs.length = ls.length := by simpa using hout10.1
        obtain ⟨pa, hpa, hpac, _⟩ := (Has.own hout10).idx (i := j) (by omega)
        obtain ⟨xs, hxs⟩ := hrows10 j (by omega) hjl
        have hlu : ∀ w', lenF w' 0 (vs[j]'(by omega)) = some (.int .i64 ls[j].length) := fun w' => by rw [(Has.own hxs).len]; have : xs.length = ls[j].length := (by simpa using hxs.1); rw [this]
        by_cases htl : t < ls[j].length
        · obtain ⟨a, w11, ha, hst, hk11, hob, hall11⟩ := own_storeA hxs htl (u := .int .u8 (((k : Int) + 1) % 256)) rfl
          obtain ⟨cur, hcur⟩ := own_cells hxs hob
          simp (maxSteps := 1000000) (disch := omega) only [F8_L1, ↓sy1, sy2, sy3, readOK, implies_true, forall_const, Nat.reduceEqDiff, ↓reduceIte, Option.map_some, Option.map_none, List.map_cons, List.map_nil, oneOf, if_true, if_false, Nat.reduceAdd, Nat.reduceMul, Option.isNone_some, Option.isNone_none, List.getElem?_toArray, List.getElem?_cons_zero, List.getElem?_cons_succ, reduceCtorEq, e13, e12, e5, e1, e7, e11, hpa, hpac, hlu, Int.ofNat_lt, htl, decide_true, ha, hst]
          have hx11 : Ext (fun c => c = 3) G8 w10 G8 w11 := .on0 hk11 (hmk8 j (by omega) a.block hob).1 (hmk8 j (by omega) a.block hob).2
          refine R_out ⟨⟨t + 1, by omega, rfl, own_keepT hout10 hk11 hcur (by decide), fun q h1 h2 => (hrows10 q h1 h2).elim fun _ hx => hall11 _ _ _ _ hx, hx10.trans hx11⟩, ?_⟩
          simp only [intOf]; omega
        · simp (maxSteps := 1000000) (disch := omega) only [F8_L1, ↓sy1, sy2, sy3, readOK, implies_true, forall_const, Nat.reduceEqDiff, ↓reduceIte, Option.map_some, Option.map_none, List.map_cons, List.map_nil, oneOf, if_true, if_false, Nat.reduceAdd, Nat.reduceMul, Option.isNone_some, Option.isNone_none, List.getElem?_toArray, List.getElem?_cons_zero, List.getElem?_cons_succ, reduceCtorEq, e13, e12, e5, e1, e7, e11, hpa, hpac, hlu, Int.ofNat_lt, htl, decide_false]
          refine R_out ⟨⟨j + 1, by omega, rfl, hout10, hrows10, hx10⟩, ?_⟩
          simp only [intOf]; omega
      · simp (maxSteps := 1000000) (disch := omega) only [F8_L2, ↓sy1, sy2, sy3, readOK, implies_true, forall_const, Nat.reduceEqDiff, ↓reduceIte, Option.map_some, Option.map_none, List.map_cons, List.map_nil, oneOf, if_true, if_false, Nat.reduceAdd, Nat.reduceMul, Option.isNone_some, Option.isNone_none, List.getElem?_toArray, List.getElem?_cons_zero, List.getElem?_cons_succ, reduceCtorEq, e12, e5, e1, e7, e11, hlo, Int.ofNat_lt, hjl, decide_false]
        have hxall : Ext Mine G00 w G8 w9 := ((hxm.trans hx18).mono (fun _ h => h.elim)).trans (hx9.mono (fun c h => by omega))
        rw [hdv]
        refine call0 image_nil ?_
        rintro _ w12 ⟨rfl, rfl⟩
        rw [hwv] at e11
        simp (maxSteps := 1000000) (disch := omega) only [↓sy1, sy2, sy3, readOK, implies_true, forall_const, Nat.reduceEqDiff, ↓reduceIte, Option.map_some, Option.map_none, List.map_cons, List.map_nil, oneOf, if_true, if_false, Nat.reduceAdd, Nat.reduceMul, Option.isNone_some, Option.isNone_none, List.getElem?_toArray, List.getElem?_cons_zero, List.getElem?_cons_succ, reduceCtorEq, e12, e5, e1, e7, e11, hdv]
        refine call0 (sameAll_spec _ _ [] [] _ (HasR.nil _) (HasR.nil _) (by simp) (fun b hb => by cases hb)) ?_
        rintro _ w13 ⟨rfl, hg13⟩
        simp (maxSteps := 1000000) (disch := omega) only [↓sy1, sy2, sy3, readOK, implies_true, forall_const, Nat.reduceEqDiff, ↓reduceIte, Option.map_some, Option.map_none, List.map_cons, List.map_nil, oneOf, if_true, if_false, Nat.reduceAdd, Nat.reduceMul, Option.isNone_some, Option.isNone_none, List.getElem?_toArray, List.getElem?_cons_zero, List.getElem?_cons_succ, reduceCtorEq, e12, e5, e1, e7, e11, hdv, decide_true]
        refine call0 ops_nil ?_
        rintro _ w14 ⟨rfl, rfl⟩
        simp (maxSteps := 1000000) (disch := omega) only [↓sy1, sy2, sy3, readOK, implies_true, forall_const, Nat.reduceEqDiff, ↓reduceIte, Option.map_some, Option.map_none, List.map_cons, List.map_nil, oneOf, if_true, if_false, Nat.reduceAdd, Nat.reduceMul, Option.isNone_some, Option.isNone_none, List.getElem?_toArray, List.getElem?_cons_zero, List.getElem?_cons_succ, reduceCtorEq, decide_true]
        exact R_out ((hxall.toGrow (by simp)).trans hg13)
    · have h1 : 1 ≤ ls.length := by omega
      have h2 : ls.length ≤ 4096 := by omega
      refine call0 (load_spec (G := Gm) 1 hHas (by omega) hsmall) ?_
      rintro _ w2 hl2
      obtain ⟨p, G2, rfl, hp2, hd2, hx2⟩ := (hl2).2.2 h1 h2 hall
      simp (maxSteps := 1000000) (disch := omega) only [↓sy1, sy2, sy3, readOK, implies_true, forall_const, Nat.reduceEqDiff, ↓reduceIte, Option.map_some, Option.map_none, List.map_cons, List.map_nil, oneOf, if_true, if_false, Nat.reduceAdd, Nat.reduceMul, Option.isNone_some, Option.isNone_none, List.getElem?_toArray, List.getElem?_cons_zero, List.getElem?_cons_succ, reduceCtorEq, e6, e0, e1, e5]
      refine call0 (rload_spec (G := G2) 2 (hHas.grow hx2.growG) (by omega) hsmall) ?_
      rintro _ w3 hl3
      obtain ⟨r, G3, rfl, hr3, hrd3, hx3⟩ := (hl3).2.2 h1 h2 hall
      simp (maxSteps := 1000000) (disch := omega) only [↓sy1, sy2, sy3, readOK, implies_true, forall_const, Nat.reduceEqDiff, ↓reduceIte, Option.map_some, Option.map_none, List.map_cons, List.map_nil, oneOf, if_true, if_false, Nat.reduceAdd, Nat.reduceMul, Option.isNone_some, Option.isNone_none, List.getElem?_toArray, List.getElem?_cons_zero, List.getElem?_cons_succ, reduceCtorEq, e6, e0, e1, e5]
      refine call0 (live_spec _) ?_
      rintro _ w4 ⟨rfl, hg4⟩
      simp (maxSteps := 1000000) (disch := omega) only [↓sy1, sy2, sy3, readOK, implies_true, forall_const, Nat.reduceEqDiff, ↓reduceIte, Option.map_some, Option.map_none, List.map_cons, List.map_nil, oneOf, if_true, if_false, Nat.reduceAdd, Nat.reduceMul, Option.isNone_some, Option.isNone_none, List.getElem?_toArray, List.getElem?_cons_zero, List.getElem?_cons_succ, reduceCtorEq, e6, e0, e1, e5, decide_true, beq_self_eq_true, Bool.not_true]
      have hrd4 := hrd3.grow hg4
      refine call0 (rimage_spec hrd4) ?_
      rintro wasv w8 ⟨hwas, hg8⟩
      have himg : (⟨ls, []⟩ : Dsk).image = ls := by simp [Dsk.image, Dsk.safe_new, Dsk.wait_new, flushed_none]
      rw [himg] at hwas
      have hx4 : Ext0 G3 w3 (G3.new w3.heap.size) w8 := .newB (hg4.trans hg8)
      have hnew8 : ∀ b, w3.heap.size ≤ b → ¬ (G3.new w3.heap.size).own b = 3 := fun b hb => by rw [Gh.new_own hb]; omega
      have hx18 : Ext0 Gm w1 (G3.new w3.heap.size) w8 := (hx2.trans hx3).trans hx4
      have hd8 := (hd2.ext hx3 id).ext hx4 id
      generalize G3.new w3.heap.size = G8 at hx4 hx18 hd8 hnew8
      obtain ⟨dv, hdv⟩ : ∃ v, v = Value.pointer (some ⟨p, 0, none⟩) := ⟨_, rfl⟩
      obtain ⟨wv0, hwv⟩ : ∃ v, v = wasv := ⟨_, rfl⟩
      simp (maxSteps := 1000000) (disch := omega) only [↓sy1, sy2, sy3, readOK, implies_true, forall_const, Nat.reduceEqDiff, ↓reduceIte, Option.map_some, Option.map_none, List.map_cons, List.map_nil, oneOf, if_true, if_false, Nat.reduceAdd, Nat.reduceMul, Option.isNone_some, Option.isNone_none, List.getElem?_toArray, List.getElem?_cons_zero, List.getElem?_cons_succ, reduceCtorEq, e6, e0, e1, e5]
      have hmk8 : ∀ j (h : j < vs.length), ∀ b, vs[j].ownBlock = some b → G8.own b = 3 ∧ G8.fix b = 0 := fun j h b hb => by
        obtain ⟨q1, q2, q3⟩ := hmk j h b hb
        first | exact ⟨(hx18.own b q3).trans q1, (hx18.fixe b q3 id).trans q2⟩ | (rw [hG8]; exact ⟨q1, q2⟩)
      have hout8 := own_grow hown hx18.growG
      have hrows8 : OwnL w.heap.size _ vs ls := hrowsL.keep hx18.growG (fun _ _ => id)
      have hbound : ls.length ≤ 20 := by omega
      refine loop_rule (fun e w' => ∃ j : Nat, j ≤ ls.length ∧ e 12 = .int .i64 j ∧ e 5 = out ∧ e 1 = .int .u8 k ∧ e 7 = dv ∧ e 11 = wv0 ∧ w'.ownsRow w.heap.size 37 1 out ls.length vs ∧ OwnL w.heap.size w' vs ls ∧ Ext (fun c => c = 3) G8 w8 G8 w') (fun e _ => ls.length - (intOf (e 12)).toNat)
        ⟨0, by omega, by simp [upd, updO, ev], by simp [upd, updO, ev, e5], by simp [upd, updO, ev, e1], by simp [upd, updO, ev, hdv], by simp [upd, updO, ev, hwv], hout8, hrows8, .refl _ _ _⟩ ?_
      clear e6 e0 e1 e5
      rintro e w9 ⟨j, hj, e12, e5, e1, e7, e11, hout9, hrows9, hx9⟩
      have hlo : ∀ w', lenF w' 0 out = some (.int .i64 ls.length) := fun w' => by rw [(Has.own hout9).len]; have : vs.length = ls.length := (by simpa using hout9.1); rw [this]
      by_cases hjl : j < ls.length
      · simp (maxSteps := 1000000) (disch := omega) only [F8_L2, ↓sy1, sy2, sy3, readOK, implies_true, forall_const, Nat.reduceEqDiff, ↓reduceIte, Option.map_some, Option.map_none, List.map_cons, List.map_nil, oneOf, if_true, if_false, Nat.reduceAdd, Nat.reduceMul, Option.isNone_some, Option.isNone_none, List.getElem?_toArray, List.getElem?_cons_zero, List.getElem?_cons_succ, reduceCtorEq, e12, e5, e1, e7, e11, hlo, Int.ofNat_lt, hjl, decide_true]
        have hll : ls[j].length ≤ 1048576 := hsmall _ (List.getElem_mem hjl)
        refine loop_rule (fun e w' => ∃ t : Nat, t ≤ ls[j].length ∧ e 13 = .int .i64 t ∧ e 12 = .int .i64 j ∧ e 5 = out ∧ e 1 = .int .u8 k ∧ e 7 = dv ∧ e 11 = wv0 ∧ w'.ownsRow w.heap.size 37 1 out ls.length vs ∧ OwnL w.heap.size w' vs ls ∧ Ext (fun c => c = 3) G8 w8 G8 w') (fun e _ => ls[j].length - (intOf (e 13)).toNat)
          ⟨0, by omega, by simp [upd, updO, ev], by simp [upd, updO, ev, e12], by simp [upd, updO, ev, e5], by simp [upd, updO, ev, e1], by simp [upd, updO, ev, e7], by simp [upd, updO, ev, e11], hout9, hrows9, hx9⟩ ?_
        clear e12 e5 e1 e7 e11
        rintro e w10 ⟨t, ht, e13, e12, e5, e1, e7, e11, hout10, hrows10, hx10⟩
        have hvl : vs.length = ls.length := by simpa using hout10.1
        obtain ⟨pa, hpa, hpac, _⟩ := (Has.own hout10).idx (i := j) (by omega)
        obtain ⟨xs, hxs⟩ := hrows10 j (by omega) hjl
        have hlu : ∀ w', lenF w' 0 (vs[j]'(by omega)) = some (.int .i64 ls[j].length) := fun w' => by rw [(Has.own hxs).len]; have : xs.length = ls[j].length := (by simpa using hxs.1); rw [this]
        by_cases htl : t < ls[j].length
        · obtain ⟨a, w11, ha, hst, hk11, hob, hall11⟩ := own_storeA hxs htl (u := .int .u8 (((k : Int) + 1) % 256)) rfl
          obtain ⟨cur, hcur⟩ := own_cells hxs hob
          simp (maxSteps := 1000000) (disch := omega) only [F8_L1, ↓sy1, sy2, sy3, readOK, implies_true, forall_const, Nat.reduceEqDiff, ↓reduceIte, Option.map_some, Option.map_none, List.map_cons, List.map_nil, oneOf, if_true, if_false, Nat.reduceAdd, Nat.reduceMul, Option.isNone_some, Option.isNone_none, List.getElem?_toArray, List.getElem?_cons_zero, List.getElem?_cons_succ, reduceCtorEq, e13, e12, e5, e1, e7, e11, hpa, hpac, hlu, Int.ofNat_lt, htl, decide_true, ha, hst]
          have hx11 : Ext (fun c => c = 3) G8 w10 G8 w11 := .on0 hk11 (hmk8 j (by omega) a.block hob).1 (hmk8 j (by omega) a.block hob).2
          refine R_out ⟨⟨t + 1, by omega, rfl, own_keepT hout10 hk11 hcur (by decide), fun q h1 h2 => (hrows10 q h1 h2).elim fun _ hx => hall11 _ _ _ _ hx, hx10.trans hx11⟩, ?_⟩
          simp only [intOf]; omega
        · simp (maxSteps := 1000000) (disch := omega) only [F8_L1, ↓sy1, sy2, sy3, readOK, implies_true, forall_const, Nat.reduceEqDiff, ↓reduceIte, Option.map_some, Option.map_none, List.map_cons, List.map_nil, oneOf, if_true, if_false, Nat.reduceAdd, Nat.reduceMul, Option.isNone_some, Option.isNone_none, List.getElem?_toArray, List.getElem?_cons_zero, List.getElem?_cons_succ, reduceCtorEq, e13, e12, e5, e1, e7, e11, hpa, hpac, hlu, Int.ofNat_lt, htl, decide_false]
          refine R_out ⟨⟨j + 1, by omega, rfl, hout10, hrows10, hx10⟩, ?_⟩
          simp only [intOf]; omega
      · simp (maxSteps := 1000000) (disch := omega) only [F8_L2, ↓sy1, sy2, sy3, readOK, implies_true, forall_const, Nat.reduceEqDiff, ↓reduceIte, Option.map_some, Option.map_none, List.map_cons, List.map_nil, oneOf, if_true, if_false, Nat.reduceAdd, Nat.reduceMul, Option.isNone_some, Option.isNone_none, List.getElem?_toArray, List.getElem?_cons_zero, List.getElem?_cons_succ, reduceCtorEq, e12, e5, e1, e7, e11, hlo, Int.ofNat_lt, hjl, decide_false]
        have hxall : Ext Mine G00 w G8 w9 := ((hxm.trans hx18).mono (fun _ h => h.elim)).trans (hx9.mono (fun c h => by omega))
        rw [hdv]
        have hd9 := hd8.ext hx9 (by omega)
        have hwas9 := hwas.keep hx9.keep (fun b hb => hnew8 b (Nat.le_trans hg4.size hb))
        refine call0 (image_spec hd9) ?_
        rintro iv w12 ⟨hiv, hg12⟩
        rw [himg] at hiv
        rw [hwv] at e11
        simp (maxSteps := 1000000) (disch := omega) only [↓sy1, sy2, sy3, readOK, implies_true, forall_const, Nat.reduceEqDiff, ↓reduceIte, Option.map_some, Option.map_none, List.map_cons, List.map_nil, oneOf, if_true, if_false, Nat.reduceAdd, Nat.reduceMul, Option.isNone_some, Option.isNone_none, List.getElem?_toArray, List.getElem?_cons_zero, List.getElem?_cons_succ, reduceCtorEq, e12, e5, e1, e7, e11, hdv]
        refine call0 (sameAll_spec iv wasv _ _ w12 hiv.has ((hwas9.grow hg12).has) (by omega) hsmall) ?_
        rintro _ w13 ⟨rfl, hg13⟩
        simp (maxSteps := 1000000) (disch := omega) only [↓sy1, sy2, sy3, readOK, implies_true, forall_const, Nat.reduceEqDiff, ↓reduceIte, Option.map_some, Option.map_none, List.map_cons, List.map_nil, oneOf, if_true, if_false, Nat.reduceAdd, Nat.reduceMul, Option.isNone_some, Option.isNone_none, List.getElem?_toArray, List.getElem?_cons_zero, List.getElem?_cons_succ, reduceCtorEq, e12, e5, e1, e7, e11, hdv, decide_true]
        refine call0 (ops_spec ((hd9.grow hg12).grow hg13)) ?_
        rintro _ w14 ⟨rfl, rfl⟩
        simp (maxSteps := 1000000) (disch := omega) only [↓sy1, sy2, sy3, readOK, implies_true, forall_const, Nat.reduceEqDiff, ↓reduceIte, Option.map_some, Option.map_none, List.map_cons, List.map_nil, oneOf, if_true, if_false, Nat.reduceAdd, Nat.reduceMul, Option.isNone_some, Option.isNone_none, List.getElem?_toArray, List.getElem?_cons_zero, List.getElem?_cons_succ, reduceCtorEq, decide_true, List.length_nil, Int.natCast_zero]
        exact R_out (((hxall.toGrow (by simp)).trans hg12).trans hg13)
end Go.Proofs.Ytaeejceljgjdkaa
