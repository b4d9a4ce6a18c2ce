/- Texts of one claim, put together in their order: what each proves stands ahead of it. -/
import Derived.Test.YtienelpepioggaaGreatMe
import Derived.Test.YtienelpepioggaaGreatMd
import Derived.Laws.Small
/- save: an inode is written. -/
namespace Go.Proofs.YtienelpepioggaaGreat
open Go
set_option linter.unusedSimpArgs false
open Go.RowKit (intOf)
theorem set_patch {l : List UInt8} {i : Nat} {x : UInt8} (h : i < l.length) : l.set i x = patch l i [x] := by
  rw [List.set_eq_take_append_cons_drop, if_pos h, patch]; simp
/-- Bytes laid from a place on, and zeros up to 64. -/
def layB (l : List UInt8) (at_ m : Nat) (b : List UInt8) : List UInt8 := patch l at_ (b ++ List.replicate (m - b.length) 0)
theorem layB_length {l b : List UInt8} {at_ m : Nat} (h : at_ + m ≤ l.length) (hb : b.length ≤ m) : (layB l at_ m b).length = l.length := patch_length (by simp; omega)
theorem layB_next {l b c : List UInt8} {at_ m : Nat} (h : at_ + m ≤ l.length) (hb : b.length + c.length ≤ m) : patch (layB l at_ m b) (at_ + b.length) c = layB l at_ m (b ++ c) := by
  unfold layB
  rw [patch_patch (by simp; omega) (by simp; omega), patch_next (by omega), List.length_append]
  rw [show m - b.length - c.length = m - (b.length + c.length) from by omega]
section rules
variable {k : Kont} {e : Env} {w : World} {l : List GOp} {d : Option Nat}
/-- clear, upon a part of a row of bytes. -/
theorem clearB_rule {x : Operand} {ty : TypeId} {g o n c : Nat} {ls : List UInt8} (hx : ev e x = .slice (some ⟨g, o, none⟩) n c) (hr : ByteRow w g ls) (hn : 0 < n) (ho : o + n ≤ ls.length)
    (h : ∀ w', Keep (fun b => b = g) w w' → ByteRow w' g (patch ls o (List.replicate n 0)) → R (symOps Tryz.prog l k (updO e d (.tuple #[])) w')) :
    R (symOps Tryz.prog (⟨d, .hard (H (.call { callee := .builtin .clear, args := #[x], argTypes := #[46] }) ty), none⟩ :: l) k e w) := by
  obtain ⟨cur, h1, h2, h3⟩ := hr
  refine clearS_rule elemB hx h1 hn (by omega) rfl (fun w' hk hb => h w' hk ⟨_, hb, ?_, ?_⟩)
  · rw [patch_length (by simp; omega)]
    simp; omega
  · rw [patch_length (by simp; omega)]
    have h4 : bs (patch ls o (List.replicate n 0)) = (bs ls).take o ++ List.replicate n (.int .u8 0) ++ (bs ls).drop (o + n) := by
      simp [patch, bs, List.map_take, List.map_drop]
    rw [h4, ← h3, List.take_take, Nat.min_eq_left (by omega), List.drop_take]
    have hl : (cur.toList.take o ++ List.replicate n (Value.int .u8 0)).length = o + n := by simp; omega
    simp only
    rw [List.take_append, hl, List.take_of_length_le (by omega)]
end rules
theorem idxA {n : Nat} {l : List Value} {i : Nat} {v : Value} (hi : i < n) (h : l[i]? = some v) : idxF n 1 false (.agg l.toArray) (.int .i64 (i : Int)) = some v := by
  simp only [idxF]
  rw [if_pos ⟨by omega, by omega⟩]
  simp [h]
section
variable {w : World} {q : Nat} {o : Opn}
theorem OpnAt.nums (h : OpnAt w q o) : loadN w ⟨q, 4, none⟩ 0 11 = some ((o.cells.drop 4).take 11) := by
  have h1 := loadN_cells (o := 4) h 11 0 (by simp [o.cells_length])
  rw [h1]
theorem OpnAt.mores (h : OpnAt w q o) : loadN w ⟨q, 16, none⟩ 0 128 = some ((o.cells.drop 16).take 128) := by
  have h1 := loadN_cells (o := 16) h 128 0 (by simp [o.cells_length])
  rw [h1]
theorem Opn.nums_at {k : Nat} (h : k < 11) : ((o.cells.drop 4).take 11)[k]? = some (.int .i64 (o.num k)) := by
  rw [List.getElem?_take, if_pos h, List.getElem?_drop, o.cells_get (by omega), o.cell_num h]
theorem Opn.mores_at {k : Nat} (h : k < 128) : ((o.cells.drop 16).take 128)[k]? = some (.int .i64 (o.data.getD (10 + k) 0 : Nat)) := by
  rw [List.getElem?_take, if_pos h, List.getElem?_drop, o.cells_get (by omega)]
  have := o.cell_slot (k := 10 + k)
  rw [show slotJ (10 + k) = 16 + k from by rw [slotJ, if_neg (by omega)]; omega] at this
  rw [this]
end
section
variable {G : Gh} {κ μ m p lq came s k : Nat} {w : World} {c : Csh}
/-- A page is read into a row of the caller's own. -/
theorem pread_spec (h : MapC G κ μ w m p lq came c k) {n : Nat} (hn : n < c.N) :
    Calls Tryz.prog 40 #[.pointer (some ⟨p, 0, none⟩), .int .i64 n] w (Ret fun v w' => ∃ g cap G', v = .tuple #[.slice (some ⟨g, 0, none⟩) 512 cap, .int .i64 0] ∧ 512 ≤ cap ∧ w.heap.size ≤ g ∧ ByteRow w' g (c.page n) ∧ (G'.own g = 6 ∧ G'.fix g = 0) ∧
      MapC G' κ μ w' m p lq came c k ∧ Ext (fun x => x = μ) G w G' w') := by
  obtain ⟨hne1, hne2, hne3⟩ := h.cache.ne
  refine Ret.mono (csread_strong h.cache hn) fun v w' ⟨u, G1, w1, hv, hu, hc, hx, hg⟩ => ?_
  have hpl := h.cache.oks.plen hn
  rw [← hpl] at hu
  obtain ⟨g, cap, rfl, hcap, hB, hrow⟩ := ByteRow.own hu (by intro hh; rw [hh] at hpl; simp at hpl)
  rw [hpl] at hv hcap
  have hx2 : Ext0 G1 w1 (G1.upto w1.heap.size (fun _ => 6) (fun _ => 0)) w' := .upto hg _ _
  exact ⟨g, cap, _, hv, hcap, Nat.le_trans hx.size hB, hrow, upto_own hB, (h.put hx (fun hh => hne2 hh.symm) hc rfl).ext hx2 id id id, hx.trans (hx2.mono (fun _ h => h.elim))⟩
set_option maxRecDepth 20000 in
set_option maxHeartbeats 4000000 in
theorem save_spec (h : MapC G κ μ w m p lq came c k) (hs : StoreAt G w s m) {o : Opn} (hi : o.i < k) (hk8 : k % 8 = 0) (hN : 3 + k / 8 < c.N) (hin : o.ind ≠ 0 → o.ind < c.N) (hb : o.mode < 1000000 ∧ o.links < 1000000 ∧ o.size < 1000000 ∧ (∀ j, o.num j < 1000000 ∧ o.data.getD j 0 < 1000000)) :
    Calls Tryz.prog 34 #[.pointer (some ⟨s, 0, none⟩), .agg o.cells.toArray] w (RetF (fun _ w' => ∃ G', Ext (fun x => x = μ) G w G' w' ∧ MapC G' κ μ w' m p lq came (c.save o) k)
      (fun w' => ∃ G' c1, Ext (fun x => x = μ) G w G' w' ∧ MapC G' κ μ w' m p lq came c1 k ∧ Dty [3 + o.i / 8, o.ind] c c1 ∧ c.cap < c.N ∧ c.cap < c.dirty.length + 2)) := by
  obtain ⟨hne1, hne2, hne3⟩ := h.cache.ne
  have h6 := h.ne
  have hk5 := h.k5
  have hnine := h.nine
  obtain ⟨hb1, hb2, hb3, hb4⟩ := hb
  apply enter34
  apply R_in
  have hg0 : Grow w (w.alloc (.cells (Value.agg o.cells.toArray).cells 95)) := (Keep.refl _ _).alloc _
  have hq0 := OpnAt.box w o
  simp (maxSteps := 1000000) (disch := omega) only [↓sy1, sy2, sy3, readOK, sy5, sy6, Nat.reduceEqDiff, ↓reduceIte, sy7, sy8, sy9, sya, oneOf, syb, syc, Nat.reduceAdd, Nat.reduceMul, syd, sye, syf, syg, syh, reduceCtorEq, F34]
  generalize w.alloc (.cells (Value.agg o.cells.toArray).cells 95) = w0 at hg0 hq0 ⊢
  have hx0 : Ext0 G w (G.upto w.heap.size (fun _ => 6) (fun _ => 0)) w0 := .upto hg0 _ _
  have h0 := h.ext hx0 id id id
  have hs0 := hs.ext hx0 id
  have ho0 := upto_own (G := G) (o := 6) (f := 0) (Nat.le_refl w.heap.size)
  generalize (G.upto w.heap.size (fun _ => 6) (fun _ => 0)) = G0 at hx0 h0 hs0 ho0
  refine draw34_0 (fun _ => False) ?_
  have hgd : Grow w0 w0.drew := (Keep.refl _ _).drew
  have hx1 := hx0.trans (.grow hgd)
  have h1 := h0.grow hgd
  have hs1 := hs0.grow hgd
  have hq1 := hq0.keep hgd id
  clear hx0 h0 hs0 hq0
  generalize w0.drew = w1 at hgd hx1 h1 hs1 hq1 ⊢
  have hc15 := hq1.cell (j := 15) (by omega)
  rw [show o.cell 15 = o.i from rfl] at hc15
  simp (maxSteps := 1000000) (disch := omega) only [↓sy1, sy2, sy3, readOK, sy5, sy6, Nat.reduceEqDiff, ↓reduceIte, sy7, sy8, sy9, sya, oneOf, syb, syc, Nat.reduceAdd, Nat.reduceMul, syd, sye, syf, syg, syh, reduceCtorEq, PL34_0, hs1.cell, hc15]
  refine call0 (table_spec h1 (i := o.i)) ?_
  rintro _ w2 ⟨rfl, rfl⟩
  have e1 : (3 : Int) + (o.i : Int) / 8 = ((3 + o.i / 8 : Nat) : Int) := by omega
  have e2 : (64 : Int) * ((o.i : Int) % 8) = ((64 * (o.i % 8) : Nat) : Int) := by omega
  rw [tableC, if_neg (by omega), e1, e2]
  simp (maxSteps := 1000000) (disch := omega) only [↓sy1, sy2, sy3, readOK, sy5, sy6, Nat.reduceEqDiff, ↓reduceIte, sy7, sy8, sy9, sya, oneOf, syb, syc, Nat.reduceAdd, Nat.reduceMul, syd, sye, syf, syg, syh, reduceCtorEq, hs1.cell]
  refine call0 (mcache_spec h1) ?_
  rintro _ w3 ⟨rfl, rfl⟩
  simp (maxSteps := 1000000) (disch := omega) only [↓sy1, sy2, sy3, readOK, sy5, sy6, Nat.reduceEqDiff, ↓reduceIte, sy7, sy8, sy9, sya, oneOf, syb, syc, Nat.reduceAdd, Nat.reduceMul, syd, sye, syf, syg, syh, reduceCtorEq]
  refine call0 (pread_spec h1 (n := 3 + o.i / 8) (by omega)) ?_
  rintro _ w3 ⟨g, cap, G3, rfl, hcap, hgw, hrow, hog, h3, hx3⟩
  have hx03 : Ext (fun x => x = μ) G w G3 w3 := (hx1.mono (fun _ h => h.elim)).trans hx3
  have hs3 := hs1.ext hx3 (fun hh => hne2 hh.symm)
  have hq3 : OpnAt w3 w.heap.size o := hx3.heap hq1 (by rw [ho0.1]; omega)
  have ho3 : G3.own w.heap.size = 6 ∧ G3.fix w.heap.size = 0 := by rw [hx3.own _ hq1.lt, hx3.fixe _ hq1.lt (by rw [ho0.1]; omega)]; exact ho0
  have hgq : w.heap.size ≠ g := by have := hq1.lt; omega
  have hgw0 : w.heap.size ≤ g := by have := hgd.size; have := hg0.size; omega
  have hpl := h3.cache.oks.plen (n := 3 + o.i / 8) (by omega)
  have hat : 64 * (o.i % 8) + 64 ≤ (c.page (3 + o.i / 8)).length := by omega
  generalize hpg : c.page (3 + o.i / 8) = pg at hrow hpl hat
  clear hx1 hs1 hq1 hx3 h1 hgd hg0
  have hsl : ∀ (lo hi : Int) (a b : Nat), lo = a → hi = b → a < b → b ≤ 64 → slcV 1 (some ⟨g, 64 * (o.i % 8), none⟩) 64 (cap - 64 * (o.i % 8)) (some (.int .i64 lo)) (some (.int .i64 hi)) none = some (.slice (some ⟨g, 64 * (o.i % 8) + a, none⟩) (b - a) (cap - 64 * (o.i % 8) - a)) := fun lo hi a b e1 e2 h1 h2 =>
    slcV_int e1 e2 h1 (by omega)
  simp (maxSteps := 1000000) (disch := omega) only [↓sy1, sy2, sy3, readOK, sy5, sy6, Nat.reduceEqDiff, ↓reduceIte, sy7, sy8, sy9, sya, oneOf, syb, syc, Nat.reduceAdd, Nat.reduceMul, syd, sye, syf, syg, syh, reduceCtorEq, slcV_int (g := g) (o := 0) (len := 512) (cap := cap) (kx := .i64) (ky := .i64) (lo := ((64 * (o.i % 8) : Nat) : Int)) (hi := ((64 * (o.i % 8) : Nat) : Int) + 64) (a := 64 * (o.i % 8)) (b := 64 * (o.i % 8) + 64) rfl (by omega) (by omega) (by omega), Nat.add_sub_cancel_left, Nat.zero_add]
  refine clearB_rule (by simp only [upd_at, Nat.reduceEqDiff, reduceIte, ev_tmp, ev_const, List.map_cons, List.map_nil]; rfl) hrow (by omega) (by omega) ?_
  intro w4 hk4 hrow4
  have hq4 := hq3.keep hk4 hgq
  have hc0 := hq4.cell (j := 0) (by omega)
  rw [show o.cell 0 = o.kind from rfl] at hc0
  have hl0 : patch pg (64 * (o.i % 8)) (List.replicate 64 0) = layB pg (64 * (o.i % 8)) 64 [] := rfl
  rw [hl0] at hrow4
  obtain ⟨w5, st5, hrow5, hk5'⟩ := hrow4.store (i := 64 * (o.i % 8)) (by rw [layB_length hat (by simp)]; omega) (UInt8.ofNat o.kind)
  rw [set_patch (by rw [layB_length hat (by simp)]; omega)] at hrow5
  have hn5 := layB_next (l := pg) (at_ := 64 * (o.i % 8)) (m := 64) (b := []) (c := [UInt8.ofNat o.kind]) hat (by simp)
  rw [show 64 * (o.i % 8) + ([] : List UInt8).length = 64 * (o.i % 8) from rfl] at hn5
  rw [hn5] at hrow5
  have hia0 : iaF 1 (.slice (some ⟨g, 64 * (o.i % 8), none⟩) 64 (cap - 64 * (o.i % 8))) (.int .i64 0) = some (.pointer (some ⟨g, 64 * (o.i % 8), none⟩)) := by
    rw [iaF_s (by omega), add_lit]; simp
  have hkb : (o.kind : Int) % 256 = ((UInt8.ofNat o.kind).toNat : Int) := by rw [UInt8.toNat_ofNat']; omega
  simp (maxSteps := 1000000) (disch := omega) only [↓sy1, sy2, sy3, readOK, sy5, sy6, Nat.reduceEqDiff, ↓reduceIte, sy7, sy8, sy9, sya, oneOf, syb, syc, Nat.reduceAdd, Nat.reduceMul, syd, sye, syf, syg, syh, reduceCtorEq, hc0, hia0, hkb, st5]
  have hk05 := hk4.trans hk5'
  have hq5 := hq3.keep hk05 hgq
  clear st5 hk4 hk5' hrow4 hl0 hn5 hq4
  rw [List.nil_append] at hrow5
  refine draw34_1 (fun _ => False) ?_
  have hkd1 := hk05.drew
  have hrowd1 := hrow5.keep (S := fun _ => False) ((Keep.refl _ _).drew) id
  generalize w5.drew = w6 at hkd1 hrowd1 ⊢
  have hc1 := (hq3.keep hkd1 hgq).cell (j := 1) (by omega)
  rw [show o.cell 1 = o.mode from rfl] at hc1
  have hsl1 : slcV 1 (some ⟨g, 64 * (o.i % 8), none⟩) 64 (cap - 64 * (o.i % 8)) (some (.int .i64 1)) (some (.int .i64 3)) none = some (.slice (some ⟨g, 64 * (o.i % 8) + 1, none⟩) 2 (cap - 64 * (o.i % 8) - 1)) := hsl 1 3 1 3 rfl rfl (by omega) (by omega)
  simp (maxSteps := 1000000) (disch := omega) only [↓sy1, sy2, sy3, readOK, sy5, sy6, Nat.reduceEqDiff, ↓reduceIte, sy7, sy8, sy9, sya, oneOf, syb, syc, Nat.reduceAdd, Nat.reduceMul, syd, sye, syf, syg, syh, reduceCtorEq, PL34_1, hc1, hsl1]
  refine call0 (put_spec hrowd1 (o := 64 * (o.i % 8) + 1) (m := 2) (n := o.mode) (by rw [layB_length hat (by simp [beB_length])]; omega) (by rw [layB_length hat (by simp [beB_length])]; omega) (by omega) (by omega)) ?_
  rintro _ w7 ⟨hrow1, hkp1⟩
  have hk1 := hkd1.trans hkp1
  have hn1 := layB_next (l := pg) (at_ := 64 * (o.i % 8)) (m := 64) (b := [UInt8.ofNat o.kind]) (c := beB 2 o.mode) hat (by simp [beB_length])
  rw [show 64 * (o.i % 8) + ([UInt8.ofNat o.kind]).length = 64 * (o.i % 8) + 1 from by simp [beB_length]] at hn1
  rw [hn1] at hrow1
  clear hkd1 hrowd1 hc1 hsl1 hkp1 hn1
  simp (maxSteps := 1000000) (disch := omega) only [↓sy1, sy2, sy3, readOK, sy5, sy6, Nat.reduceEqDiff, ↓reduceIte, sy7, sy8, sy9, sya, oneOf, syb, syc, Nat.reduceAdd, Nat.reduceMul, syd, sye, syf, syg, syh, reduceCtorEq]
  refine draw34_2 (fun _ => False) ?_
  have hkd2 := hk1.drew
  have hrowd2 := hrow1.keep (S := fun _ => False) ((Keep.refl _ _).drew) id
  generalize w7.drew = w8 at hkd2 hrowd2 ⊢
  have hc2 := (hq3.keep hkd2 hgq).cell (j := 2) (by omega)
  rw [show o.cell 2 = o.links from rfl] at hc2
  have hsl2 : slcV 1 (some ⟨g, 64 * (o.i % 8), none⟩) 64 (cap - 64 * (o.i % 8)) (some (.int .i64 3)) (some (.int .i64 5)) none = some (.slice (some ⟨g, 64 * (o.i % 8) + 3, none⟩) 2 (cap - 64 * (o.i % 8) - 3)) := hsl 3 5 3 5 rfl rfl (by omega) (by omega)
  simp (maxSteps := 1000000) (disch := omega) only [↓sy1, sy2, sy3, readOK, sy5, sy6, Nat.reduceEqDiff, ↓reduceIte, sy7, sy8, sy9, sya, oneOf, syb, syc, Nat.reduceAdd, Nat.reduceMul, syd, sye, syf, syg, syh, reduceCtorEq, PL34_2, hc2, hsl2]
  refine call0 (put_spec hrowd2 (o := 64 * (o.i % 8) + 3) (m := 2) (n := o.links) (by rw [layB_length hat (by simp [beB_length])]; omega) (by rw [layB_length hat (by simp [beB_length])]; omega) (by omega) (by omega)) ?_
  rintro _ w9 ⟨hrow2, hkp2⟩
  have hk2 := hkd2.trans hkp2
  have hn2 := layB_next (l := pg) (at_ := 64 * (o.i % 8)) (m := 64) (b := [UInt8.ofNat o.kind] ++ beB 2 o.mode) (c := beB 2 o.links) hat (by simp [beB_length])
  rw [show 64 * (o.i % 8) + ([UInt8.ofNat o.kind] ++ beB 2 o.mode).length = 64 * (o.i % 8) + 3 from by simp [beB_length]] at hn2
  rw [hn2] at hrow2
  clear hkd2 hrowd2 hc2 hsl2 hkp2 hn2
  simp (maxSteps := 1000000) (disch := omega) only [↓sy1, sy2, sy3, readOK, sy5, sy6, Nat.reduceEqDiff, ↓reduceIte, sy7, sy8, sy9, sya, oneOf, syb, syc, Nat.reduceAdd, Nat.reduceMul, syd, sye, syf, syg, syh, reduceCtorEq]
  refine draw34_3 (fun _ => False) ?_
  have hkd3 := hk2.drew
  have hrowd3 := hrow2.keep (S := fun _ => False) ((Keep.refl _ _).drew) id
  generalize w9.drew = w10 at hkd3 hrowd3 ⊢
  have hc3 := (hq3.keep hkd3 hgq).cell (j := 3) (by omega)
  rw [show o.cell 3 = o.size from rfl] at hc3
  have hsl3 : slcV 1 (some ⟨g, 64 * (o.i % 8), none⟩) 64 (cap - 64 * (o.i % 8)) (some (.int .i64 5)) (some (.int .i64 9)) none = some (.slice (some ⟨g, 64 * (o.i % 8) + 5, none⟩) 4 (cap - 64 * (o.i % 8) - 5)) := hsl 5 9 5 9 rfl rfl (by omega) (by omega)
  simp (maxSteps := 1000000) (disch := omega) only [↓sy1, sy2, sy3, readOK, sy5, sy6, Nat.reduceEqDiff, ↓reduceIte, sy7, sy8, sy9, sya, oneOf, syb, syc, Nat.reduceAdd, Nat.reduceMul, syd, sye, syf, syg, syh, reduceCtorEq, PL34_3, hc3, hsl3]
  refine call0 (put_spec hrowd3 (o := 64 * (o.i % 8) + 5) (m := 4) (n := o.size) (by rw [layB_length hat (by simp [beB_length])]; omega) (by rw [layB_length hat (by simp [beB_length])]; omega) (by omega) (by omega)) ?_
  rintro _ w11 ⟨hrow3, hkp3⟩
  have hk3 := hkd3.trans hkp3
  have hn3 := layB_next (l := pg) (at_ := 64 * (o.i % 8)) (m := 64) (b := [UInt8.ofNat o.kind] ++ beB 2 o.mode ++ beB 2 o.links) (c := beB 4 o.size) hat (by simp [beB_length])
  rw [show 64 * (o.i % 8) + ([UInt8.ofNat o.kind] ++ beB 2 o.mode ++ beB 2 o.links).length = 64 * (o.i % 8) + 5 from by simp [beB_length]] at hn3
  rw [hn3] at hrow3
  clear hkd3 hrowd3 hc3 hsl3 hkp3 hn3
  have hq11 := hq3.keep hk3 hgq
  have hn0 : [UInt8.ofNat o.kind] ++ beB 2 o.mode ++ beB 2 o.links ++ beB 4 o.size = o.headR ++ o.nums 0 := by simp [Opn.headR, Opn.nums]
  rw [hn0] at hrow3
  simp (maxSteps := 1000000) (disch := omega) only [↓sy1, sy2, sy3, readOK, sy5, sy6, Nat.reduceEqDiff, ↓reduceIte, sy7, sy8, sy9, sya, oneOf, syb, syc, Nat.reduceAdd, Nat.reduceMul, syd, sye, syf, syg, syh, reduceCtorEq, hq11.nums]
  refine loop_rule (fun e w' => ∃ j : Nat, j ≤ 11 ∧ e 70 = .int .i64 j ∧ e 69 = .agg ((o.cells.drop 4).take 11).toArray ∧ e 9 = .slice (some ⟨g, 64 * (o.i % 8), none⟩) 64 (cap - 64 * (o.i % 8)) ∧ e 0 = .pointer (some ⟨s, 0, none⟩) ∧ e 3 = .pointer (some ⟨w.heap.size, 0, none⟩) ∧ e 4 = .int .i64 (3 + o.i / 8 : Nat) ∧ e 7 = .slice (some ⟨g, 0, none⟩) 512 cap ∧
      ByteRow w' g (layB pg (64 * (o.i % 8)) 64 (o.headR ++ o.nums j)) ∧ Keep (fun b => b = g) w3 w') (fun e _ => 11 - (intOf (e 70)).toNat)
    ⟨0, by omega, by simp [upd, updO, ev], by simp [upd, updO, ev], by simp [upd, updO, ev], by simp [upd, updO, ev], by simp [upd, updO, ev], by simp [upd, updO, ev], by simp [upd, updO, ev], hrow3, hk3⟩ ?_
  clear hrow5 hk05 hq5 hrow1 hrow2 hk1 hk2
  rintro e wj ⟨j, hj, e70, e69, e9, e0, e3, e4, e7, hrj, hkj⟩
  have hlen : (o.headR ++ o.nums j).length = 9 + 4 * j := by rw [List.length_append, o.headR_length, o.nums_length]
  by_cases hlt : j < 11
  · have hsj : slcV 1 (some ⟨g, 64 * (o.i % 8), none⟩) 64 (cap - 64 * (o.i % 8)) (some (.int .i64 (9 + 4 * (j : Int)))) (some (.int .i64 (13 + 4 * (j : Int)))) none = some (.slice (some ⟨g, 64 * (o.i % 8) + (9 + 4 * j), none⟩) 4 (cap - 64 * (o.i % 8) - (9 + 4 * j))) := by
      have := hsl (9 + 4 * (j : Int)) (13 + 4 * (j : Int)) (9 + 4 * j) (13 + 4 * j) (by omega) (by omega) (by omega) (by omega)
      rw [this, show 13 + 4 * j - (9 + 4 * j) = 4 from by omega]
    have hbj := (hb4 j).1
    simp (maxSteps := 1000000) (disch := omega) only [↓sy1, sy2, sy3, readOK, sy5, sy6, Nat.reduceEqDiff, ↓reduceIte, sy7, sy8, sy9, sya, oneOf, syb, syc, Nat.reduceAdd, Nat.reduceMul, syd, sye, syf, syg, syh, reduceCtorEq, F34_L0, e70, e69, e9, e0, e3, e4, e7, show (j : Int) < 11 from by omega, decide_true, idxA hlt (o.nums_at hlt), hsj]
    refine call0 (put_spec hrj (o := 64 * (o.i % 8) + (9 + 4 * j)) (m := 4) (n := o.num j) (by rw [layB_length hat (by omega)]; omega) (by rw [layB_length hat (by omega)]; omega) (by omega) (by omega)) ?_
    rintro _ wj2 ⟨hrj2, hkj2⟩
    have hnj := layB_next (l := pg) (at_ := 64 * (o.i % 8)) (m := 64) (b := o.headR ++ o.nums j) (c := beB 4 (o.num j)) hat (by rw [hlen, beB_length]; omega)
    rw [hlen, List.append_assoc, show o.nums j ++ beB 4 (o.num j) = o.nums (j + 1) from (flat4_succ o.num j).symm] at hnj
    rw [hnj] at hrj2
    simp (maxSteps := 1000000) (disch := omega) only [↓sy1, sy2, sy3, readOK, sy5, sy6, Nat.reduceEqDiff, ↓reduceIte, sy7, sy8, sy9, sya, oneOf, syb, syc, Nat.reduceAdd, Nat.reduceMul, syd, sye, syf, syg, syh, reduceCtorEq, e70, e69, e9, e0, e3, e4, e7]
    exact R_out ⟨⟨j + 1, by omega, rfl, hrj2, hkj.trans hkj2⟩, by simp only [intOf]; omega⟩
  have hje : j = 11 := by omega
  subst hje
  rw [show ((11 : Nat) : Int) = 11 from rfl] at e70
  have hrec : layB pg (64 * (o.i % 8)) 64 (o.headR ++ o.nums 11) = patch pg (64 * (o.i % 8)) o.recB := by
    rw [layB, hlen]; rfl
  rw [hrec] at hrj
  have hpl2 : (patch pg (64 * (o.i % 8)) o.recB).length = 512 := by rw [patch_length (by rw [o.recB_length]; omega)]; exact hpl
  have hxj := hx03.then hkj hgw0
  have hmj : MapC G3 κ μ wj m p lq came c k := h3.ext (.on0 hkj hog.1 hog.2) h6.1 h6.2 (by omega)
  have hsj : StoreAt G3 wj s m := hs3.ext (.on0 hkj hog.1 hog.2) (by omega)
  have hqj := hq3.keep hkj hgq
  have hbr : HasB wj (.slice (some ⟨g, 0, none⟩) 512 cap) (patch pg (64 * (o.i % 8)) o.recB) := by
    have := hrj.part (o := 0) (m := 512) (c := cap) (by omega) hcap
    rw [List.drop_zero, List.take_of_length_le (by omega)] at this
    exact this
  have hc14 := hqj.cell (j := 14) (by omega)
  rw [show o.cell 14 = o.ind from rfl] at hc14
  have hia : iaaF 11 1 (.pointer (some ⟨w.heap.size, 4, none⟩)) (.int .i64 10) = some (.pointer (some ⟨w.heap.size, 14, none⟩)) := rfl
  simp (maxSteps := 1000000) (disch := omega) only [↓sy1, sy2, sy3, readOK, sy5, sy6, Nat.reduceEqDiff, ↓reduceIte, sy7, sy8, sy9, sya, oneOf, syb, syc, Nat.reduceAdd, Nat.reduceMul, syd, sye, syf, syg, syh, reduceCtorEq, F34_L0, e70, e69, e9, e0, e3, e4, e7, Int.reduceLT, decide_false]
  refine callF (iwrite_spec hmj hsj hbr hpl2) ?_ ?_
  · rintro w12 ⟨hw0, G12, hx12, h12⟩
    exact ⟨rfl, G12, c, hxj.trans hx12, h12, .refl _ _, (Dty.refl [3 + o.i / 8, o.ind] c).fullN (n := 3 + o.i / 8) (by omega) hw0, (Dty.refl [3 + o.i / 8, o.ind] c).full (n := 3 + o.i / 8) (by simp) (by omega) hw0⟩
  rintro _ w12 ⟨hw0, G12, hx12, h12⟩
  rw [← hpg] at h12
  have h12 : MapC G12 κ μ w12 m p lq came (c.save1 o) k := h12
  have hx012 := hxj.trans hx12
  have hs12 := hsj.ext hx12 (fun hh => hne2 hh.symm)
  have hq12 : OpnAt w12 w.heap.size o := hx12.heap hqj (by rw [ho3.1]; omega)
  have ho12 : G12.own w.heap.size = 6 ∧ G12.fix w.heap.size = 0 := by rw [hx12.own _ hqj.lt, hx12.fixe _ hqj.lt (by rw [ho3.1]; omega)]; exact ho3
  have hc14' := hq12.cell (j := 14) (by omega)
  rw [show o.cell 14 = o.ind from rfl] at hc14'
  by_cases hind : o.ind = 0
  · simp (maxSteps := 1000000) (disch := omega) only [↓sy1, sy2, sy3, readOK, sy5, sy6, Nat.reduceEqDiff, ↓reduceIte, sy7, sy8, sy9, sya, oneOf, syb, syc, Nat.reduceAdd, Nat.reduceMul, syd, sye, syf, syg, syh, reduceCtorEq, e0, e3, hia, hc14', hind, show ((0 : Nat) : Int) = 0 from rfl, decide_true, not_true_eq_false]
    refine R_out ⟨G12, hx012, ?_⟩
    rw [Csh.save, if_pos hind]; exact h12
  simp (maxSteps := 1000000) (disch := omega) only [↓sy1, sy2, sy3, readOK, sy5, sy6, Nat.reduceEqDiff, ↓reduceIte, sy7, sy8, sy9, sya, oneOf, syb, syc, Nat.reduceAdd, Nat.reduceMul, syd, sye, syf, syg, syh, reduceCtorEq, e0, e3, hia, hc14', show ¬ ((o.ind : Int) = 0) from by omega, decide_false]
  have hbg := hin hind
  refine mkz_rule (fun zv w13 hg13 hz => ?_)
  have hz' : w13.ownsRow w12.heap.size 5 1 zv zsec.length (bs zsec) := hz
  obtain ⟨g2, cap2, rfl, hcap2, hBg2, hrz⟩ := ByteRow.own hz' (by intro hh; have := zsec_length; rw [hh] at this; simp at this)
  have hzl := zsec_length
  rw [hzl] at hcap2 ⊢
  have hx13 : Ext0 G12 w12 (G12.upto w12.heap.size (fun _ => 6) (fun _ => 0)) w13 := .upto hg13 _ _
  have h13 := h12.ext hx13 id id id
  have hs13 := hs12.ext hx13 id
  have hq13 := hq12.keep hg13 id
  have ho13 := upto_own (G := G12) (o := 6) (f := 0) hBg2
  have hx013 := hx012.trans (hx13.mono (fun _ h => h.elim))
  have hgq2 : w.heap.size ≠ g2 := by have := hq12.lt; omega
  have hgw2 : w.heap.size ≤ g2 := by have := hq12.lt; omega
  generalize (G12.upto w12.heap.size (fun _ => 6) (fun _ => 0)) = G13 at hx13 h13 hs13 ho13 hx013
  simp (maxSteps := 1000000) (disch := omega) only [↓sy1, sy2, sy3, readOK, sy5, sy6, Nat.reduceEqDiff, ↓reduceIte, sy7, sy8, sy9, sya, oneOf, syb, syc, Nat.reduceAdd, Nat.reduceMul, syd, sye, syf, syg, syh, reduceCtorEq, e0, e3, hq13.mores]
  have hlay0 : zsec = layB zsec 0 512 (o.inds 0) := by
    unfold layB
    rw [show (o.inds 0) = [] from rfl]
    simp [patch, zsec]
  have hlz : ∀ j, j ≤ 128 → (layB zsec 0 512 (o.inds j)).length = 512 := fun j hj => by rw [layB_length (by omega) (by rw [o.inds_length]; omega)]; exact hzl
  refine loop_rule (fun e w' => ∃ j : Nat, j ≤ 128 ∧ e 98 = .int .i64 j ∧ e 97 = .agg ((o.cells.drop 16).take 128).toArray ∧ e 13 = .slice (some ⟨g2, 0, none⟩) 512 cap2 ∧ e 0 = .pointer (some ⟨s, 0, none⟩) ∧ e 12 = .int .i64 o.ind ∧
      ByteRow w' g2 (layB zsec 0 512 (o.inds j)) ∧ Keep (fun b => b = g2) w13 w') (fun e _ => 128 - (intOf (e 98)).toNat)
    ⟨0, by omega, by simp [upd, updO, ev], by simp [upd, updO, ev], by simp [upd, updO, ev], by simp [upd, updO, ev, e0], by simp [upd, updO, ev], by rw [← hlay0]; exact hrz, Keep.refl _ _⟩ ?_
  rintro e' wk ⟨j, hj, e98, e97, e13, e0', e12, hrk, hkk⟩
  by_cases hlt : j < 128
  · have hsj2 : slcV 1 (some ⟨g2, 0, none⟩) 512 cap2 (some (.int .i64 (4 * (j : Int)))) (some (.int .i64 (4 * (j : Int) + 4))) none = some (.slice (some ⟨g2, 0 + 4 * j, none⟩) 4 (cap2 - 4 * j)) := by
      have := slcV_int (g := g2) (o := 0) (len := 512) (cap := cap2) (kx := .i64) (ky := .i64) (lo := 4 * (j : Int)) (hi := 4 * (j : Int) + 4) (a := 4 * j) (b := 4 * j + 4) (by omega) (by omega) (by omega) (by omega)
      rw [this, show 4 * j + 4 - 4 * j = 4 from by omega]
    have hbj := (hb4 (10 + j)).2
    have hlj := hlz j hj
    simp (maxSteps := 1000000) (disch := omega) only [↓sy1, sy2, sy3, readOK, sy5, sy6, Nat.reduceEqDiff, ↓reduceIte, sy7, sy8, sy9, sya, oneOf, syb, syc, Nat.reduceAdd, Nat.reduceMul, syd, sye, syf, syg, syh, reduceCtorEq, F34_L1, e98, e97, e13, e0', e12, show (j : Int) < 128 from by omega, decide_true, idxA hlt (o.mores_at hlt), hsj2]
    refine call0 (put_spec hrk (o := 0 + 4 * j) (m := 4) (n := o.data.getD (10 + j) 0) (by omega) (by omega) (by omega) (by omega)) ?_
    rintro _ wj2 ⟨hrj2, hkj2⟩
    have hnj := layB_next (l := zsec) (at_ := 0) (m := 512) (b := o.inds j) (c := beB 4 (o.data.getD (10 + j) 0)) (by omega) (by rw [o.inds_length, beB_length]; omega)
    rw [o.inds_length, show o.inds j ++ beB 4 (o.data.getD (10 + j) 0) = o.inds (j + 1) from (flat4_succ (fun k => o.data.getD (10 + k) 0) j).symm] at hnj
    rw [hnj] at hrj2
    simp (maxSteps := 1000000) (disch := omega) only [↓sy1, sy2, sy3, readOK, sy5, sy6, Nat.reduceEqDiff, ↓reduceIte, sy7, sy8, sy9, sya, oneOf, syb, syc, Nat.reduceAdd, Nat.reduceMul, syd, sye, syf, syg, syh, reduceCtorEq, e98, e97, e13, e0', e12]
    exact R_out ⟨⟨j + 1, by omega, rfl, hrj2, hkk.trans hkj2⟩, by simp only [intOf]; omega⟩
  have hje : j = 128 := by omega
  subst hje
  rw [show ((128 : Nat) : Int) = 128 from rfl] at e98
  have hrec2 : layB zsec 0 512 (o.inds 128) = o.ind4 := by
    have hl4 := o.ind4_length
    rw [layB, show o.inds 128 = o.ind4 from rfl, hl4]
    simp [patch, hl4, hzl]
  rw [hrec2] at hrk
  have hxk := hx013.then hkk hgw2
  have hmk : MapC G13 κ μ wk m p lq came (c.save1 o) k := h13.ext (.on0 hkk ho13.1 ho13.2) h6.1 h6.2 (by omega)
  have hsk : StoreAt G13 wk s m := hs13.ext (.on0 hkk ho13.1 ho13.2) (by omega)
  have hbr2 : HasB wk (.slice (some ⟨g2, 0, none⟩) 512 cap2) o.ind4 := by
    have := hrk.part (o := 0) (m := 512) (c := cap2) (by rw [o.ind4_length]; omega) hcap2
    rw [List.drop_zero, List.take_of_length_le (by rw [o.ind4_length]; omega)] at this
    exact this
  simp (maxSteps := 1000000) (disch := omega) only [↓sy1, sy2, sy3, readOK, sy5, sy6, Nat.reduceEqDiff, ↓reduceIte, sy7, sy8, sy9, sya, oneOf, syb, syc, Nat.reduceAdd, Nat.reduceMul, syd, sye, syf, syg, syh, reduceCtorEq, F34_L1, e98, e97, e13, e0', e12, Int.reduceLT, decide_false]
  refine callF (iwrite_spec hmk hsk hbr2 o.ind4_length) ?_ ?_
  · rintro w14 ⟨hw1, G14, hx14, h14⟩
    exact ⟨rfl, G14, c.save1 o, hxk.trans hx14, h14, c.save1_dty o, (c.save1_dty o).fullN (n := o.ind) hbg hw1, (c.save1_dty o).full (n := o.ind) (by simp) hbg hw1⟩
  rintro _ w14 ⟨hw1, G14, hx14, h14⟩
  simp (maxSteps := 1000000) (disch := omega) only [↓sy1, sy2, sy3, readOK, sy5, sy6, Nat.reduceEqDiff, ↓reduceIte, sy7, sy8, sy9, sya, oneOf, syb, syc, Nat.reduceAdd, Nat.reduceMul, syd, sye, syf, syg, syh, reduceCtorEq]
  refine R_out ⟨G14, hxk.trans hx14, ?_⟩
  rw [Csh.save, if_neg hind]; exact h14
end
end Go.Proofs.YtienelpepioggaaGreat

/- Files while one of them changes. -/
namespace Go.Proofs.YtienelpepioggaaGreat
open Go
set_option linter.unusedSimpArgs false
/-- All but file i is as it is told; o is the inode of file i as it stands in memory. -/
structure FMid (c : Csh) (P I : List Bool) (F : Nat → Option Opn) (B : Nat → List UInt8) (i : Nat) (o : Opn) : Prop where
  alc : Alc c P I
  own : FOwn P I (upF F i (some o))
  ok : ∀ j oj, j ≠ i → F j = some oj → oj.Ok
  recs : ∀ j oj, j ≠ i → F j = some oj → FRec c oj (B j)
section
variable {c c' : Csh} {P I : List Bool} {F : Nat → Option Opn} {B : Nat → List UInt8} {i n : Nat} {o o' : Opn}
theorem FsOk.mid (h : FsOk c P I F B) (hF : F i = some o) : FMid c P I F B i o :=
  ⟨h.alc, by rw [← hF, upF_self]; exact h.own, fun j oj _ hj => h.ok j oj hj, fun j oj _ hj => h.recs j oj hj⟩
theorem FMid.num (h : FMid c P I F B i o) : o.i = i ∧ 1 ≤ i ∧ i < I.length ∧ I.length ≤ 512 ∧ I.length % 8 = 0 ∧ 3 + I.length / 8 < c.N ∧ c.N ≤ 4096 ∧ P.length = c.N := by
  obtain ⟨h1, h2, h3⟩ := h.own.num i o upF_same
  have h4 := h.alc.may
  have h5 := h.alc.plen
  unfold mayA at h4
  exact ⟨h1, h2, (List.getElem?_eq_some_iff.1 h3).1, by omega, by omega, by omega, by omega, h5⟩
theorem FMid.pg (h : FMid c P I F B i o) (hn : n ∈ o.own) : 3 + I.length / 8 ≤ n ∧ P[n]? = some true ∧ n < c.N ∧ 0 < n := by
  obtain ⟨h1, h2⟩ := h.own.page i o n upF_same hn
  have h3 := (List.getElem?_eq_some_iff.1 h2).1
  exact ⟨h1, h2, by rw [← h.alc.plen]; exact h3, by omega⟩
/-- Another file's pages. -/
theorem FMid.other (h : FMid c P I F B i o) {j : Nat} {oj : Opn} (hji : j ≠ i) (hj : F j = some oj) (hn : n ∈ oj.own) : 3 + I.length / 8 ≤ n ∧ P[n]? = some true ∧ n ∉ o.own := by
  have hj' : upF F i (some o) j = some oj := by rw [upF_ne hji]; exact hj
  obtain ⟨h1, h2⟩ := h.own.page j oj n hj' hn
  exact ⟨h1, h2, fun hh => hji (h.own.apart j i oj o n hj' upF_same hn hh)⟩
theorem FMid.rpage (h : FMid c P I F B i o) {j : Nat} {oj : Opn} (hji : j ≠ i) (hj : F j = some oj) : oj.i = j ∧ 3 + oj.i / 8 < 3 + I.length / 8 := by
  have hj' : upF F i (some o) j = some oj := by rw [upF_ne hji]; exact hj
  obtain ⟨h1, h2, h3⟩ := h.own.num j oj hj'
  have h4 := (List.getElem?_eq_some_iff.1 h3).1
  have h5 := h.num
  refine ⟨h1, ?_⟩
  rw [h1]; omega
theorem taken_page {x : Nat} (h2 : x ≠ 2) (hn : x ≠ n) : (c.taken n).page x = c.page x := by
  rw [Csh.taken, Csh.write_page, if_neg hn, Csh.turnP, Csh.write_page, if_neg h2]
theorem taken_page_n : (c.taken n).page n = zsec := by rw [Csh.taken, Csh.write_page, if_pos rfl]
theorem turnP_page {x : Nat} (h2 : x ≠ 2) : (c.turnP n).page x = c.page x := by rw [Csh.turnP, Csh.write_page, if_neg h2]
theorem taken_dty : Dty [2, n] c (c.taken n) := (Dty.write (n := 2) (by simp)).trans (.write (by simp))
theorem turnP_dty : Dty [2] c (c.turnP n) := .write (by simp)
/-- A page is taken. -/
theorem FMid.take (h : FMid c P I F B i o) (hl : (c.page 2).length = 512) (hn : firstN P < P.length) (hp : o'.own.Perm (firstN P :: o.own)) (hi : o'.i = o.i) : FMid (c.taken (firstN P)) (P.set (firstN P) true) I F B i o' := by
  have hf := h.alc.first
  have hP := firstN_at hn
  refine ⟨h.alc.taken hl hn, h.own.grow hf hP hp hi, h.ok, fun j oj hji hj => (h.recs j oj hji hj).keep ?_ fun x hx => ?_⟩
  · have := (h.rpage hji hj).2
    rw [taken_page (by omega) (by omega)]
  · obtain ⟨h1, h2, _⟩ := h.other hji hj hx
    exact taken_page (by omega) (fun hh => by rw [hh, hP] at h2; cases h2)
/-- Its bytes stay. -/
theorem FMid.take_flat (h : FMid c P I F B i o) (hn : firstN P < P.length) {d : List Nat} (hd : ∀ x ∈ d, x ∈ o.own) : d.flatMap (c.taken (firstN P)).page = d.flatMap c.page :=
  flatMap_congr' fun x hx => by
    obtain ⟨h1, h2, _⟩ := h.pg (hd x hx)
    have hP := firstN_at hn
    exact taken_page (by omega) (fun hh => by rw [hh, hP] at h2; cases h2)
/-- A page is given back. -/
theorem FMid.give (h : FMid c P I F B i o) (hl : (c.page 2).length = 512) (hp : o.own.Perm (n :: o'.own)) (hi : o'.i = o.i) : FMid (c.turnP n) (P.set n false) I F B i o' := by
  have hn : n ∈ o.own := (hp.mem_iff).2 (by simp)
  obtain ⟨h1, h2, _⟩ := h.pg hn
  refine ⟨h.alc.flipP hl h1 h2, h.own.shrink hp hi, h.ok, fun j oj hji hj => (h.recs j oj hji hj).keep ?_ fun x hx => ?_⟩
  · have := (h.rpage hji hj).2
    rw [turnP_page (by omega)]
  · obtain ⟨h3, _, _⟩ := h.other hji hj hx
    exact turnP_page (by omega)
theorem FMid.give_flat (h : FMid c P I F B i o) {d : List Nat} (hd : ∀ x ∈ d, x ∈ o.own) : d.flatMap (c.turnP n).page = d.flatMap c.page :=
  flatMap_congr' fun x hx => by
    obtain ⟨h1, _⟩ := h.pg (hd x hx)
    exact turnP_page (by omega)
/-- A page of its own is written. -/
theorem FMid.write (h : FMid c P I F B i o) {b : List UInt8} (hn : n ∈ o.own) : FMid (c.write n b) P I F B i o := by
  obtain ⟨h1, h2, _⟩ := h.pg hn
  refine ⟨h.alc.write (by omega), h.own, h.ok, fun j oj hji hj => (h.recs j oj hji hj).keep ?_ fun x hx => ?_⟩
  · have := (h.rpage hji hj).2
    rw [Csh.write_page, if_neg (by omega)]
  · obtain ⟨_, _, h5⟩ := h.other hji hj hx
    rw [Csh.write_page, if_neg (fun (hh : x = n) => h5 (by rw [hh]; exact hn))]
/-- The pages of a file one by one. -/
theorem flat_length {d : List Nat} {f : Nat → List UInt8} (h : ∀ n ∈ d, (f n).length = 512) : (d.flatMap f).length = 512 * d.length := by
  induction d with
  | nil => rfl
  | cons a d ih => rw [List.flatMap_cons, List.length_append, h a (by simp), ih (fun n hn => h n (by simp [hn])), List.length_cons]; omega
theorem flat_take {f : Nat → List UInt8} : ∀ {d : List Nat} {k : Nat}, (∀ n ∈ d, (f n).length = 512) → k ≤ d.length → (d.take k).flatMap f = (d.flatMap f).take (512 * k)
  | [], k, _, _ => by simp
  | a :: d, 0, _, _ => by simp
  | a :: d, k + 1, h, hk => by
    have ha := h a (by simp)
    rw [List.take_succ_cons, List.flatMap_cons, List.flatMap_cons, flat_take (fun n hn => h n (by simp [hn])) (by simpa using hk), List.take_append, ha, List.take_of_length_le (l := f a) (by omega), show 512 * (k + 1) - 512 = 512 * k from by omega]
/-- A page in the middle is written. -/
theorem flat_write {f : Nat → List UInt8} {n : Nat} {b : List UInt8} : ∀ {d : List Nat} {k : Nat}, (∀ x ∈ d, (f x).length = 512) → b.length = 512 → d.Nodup → d[k]? = some n → d.flatMap (fun x => if x = n then b else f x) = patch (d.flatMap f) (512 * k) b
  | a :: d, 0, h, hb, hd, hk => by
    simp at hk; subst hk
    rw [List.nodup_cons] at hd
    have ha := h a (by simp)
    rw [List.flatMap_cons, List.flatMap_cons, if_pos rfl, patch, Nat.mul_zero, List.take_zero, List.nil_append, Nat.zero_add, hb, List.drop_left' ha]
    congr 1
    exact flatMap_congr' fun x hx => if_neg (fun (hh : x = a) => hd.1 (hh ▸ hx))
  | a :: d, k + 1, h, hb, hd, hk => by
    simp at hk
    rw [List.nodup_cons] at hd
    have ha := h a (by simp)
    have hm : n ∈ d := List.mem_of_getElem? hk
    rw [List.flatMap_cons, List.flatMap_cons, if_neg (fun (hh : a = n) => hd.1 (hh ▸ hm)), flat_write (fun x hx => h x (by simp [hx])) hb hd.2 hk]
    unfold patch
    rw [List.take_append, ha, List.take_of_length_le (l := f a) (by omega), List.drop_append, ha, show List.drop (512 * (k + 1) + b.length) (f a) = [] from List.drop_eq_nil_of_le (by omega), List.nil_append, List.append_assoc, List.append_assoc, List.append_assoc]
    rw [show 512 * (k + 1) - 512 = 512 * k from by omega, show 512 * (k + 1) + b.length - 512 = 512 * k + b.length from by omega]
end
/-- The bytes of a file that has got a size. -/
def rszB (b : List UInt8) (size : Nat) : List UInt8 := b.take size ++ List.replicate (size - b.length) 0
theorem rszB_length (b : List UInt8) (size : Nat) : (rszB b size).length = size := by simp [rszB]; omega
def upB (B : Nat → List UInt8) (i : Nat) (b : List UInt8) : Nat → List UInt8 := fun j => if j = i then b else B j
/-- The inode is saved. -/
theorem FMid.save {c : Csh} {P I : List Bool} {F : Nat → Option Opn} {B : Nat → List UInt8} {i : Nat} {o : Opn} {b : List UInt8} (h : FMid c P I F B i o) (hok : o.Ok) (hl : (c.page (3 + o.i / 8)).length = 512)
    (hb : o.data.flatMap c.page = b ++ List.replicate (512 * o.data.length - o.size) 0) (hbl : b.length = o.size) : FsOk (c.save o) P I (upF F i (some o)) (upB B i b) := by
  have hnum := h.num
  have hrl := o.recB_length
  have hr1 : ∀ x, x ≠ 3 + o.i / 8 → x ≠ o.ind → (c.save o).page x = c.page x := fun x h1 h2 => (c.save_dty o).page (by simp [h1, h2])
  have hip : o.ind ≠ 0 → 3 + I.length / 8 ≤ o.ind := fun hi => (h.pg (n := o.ind) (by simp [Opn.own, hi])).1
  have hlt8 : o.i / 8 < I.length / 8 := by rw [hnum.1]; omega
  have hrp : (c.save o).page (3 + o.i / 8) = patch (c.page (3 + o.i / 8)) (64 * (o.i % 8)) o.recB := by
    unfold Csh.save
    split
    · rw [Csh.save1, Csh.write_page, if_pos rfl]
    · rename_i hi
      have := hip hi
      rw [Csh.write_page, if_neg (by omega), Csh.save1, Csh.write_page, if_pos rfl]
  have hnd := h.own.nodup i o upF_same
  refine ⟨?_, h.own, fun j oj hj => ?_, fun j oj hj => ?_⟩
  · have ha : Alc (c.save1 o) P I := h.alc.write (by omega)
    unfold Csh.save
    split
    · exact ha
    · rename_i hi
      exact ha.write (by have := hip hi; omega)
  · by_cases hji : j = i
    · subst hji; rw [upF_same] at hj; cases hj; exact hok
    · rw [upF_ne hji] at hj; exact h.ok j oj hji hj
  · by_cases hji : j = i
    · subst hji; rw [upF_same] at hj; cases hj
      have hB : upB B j b j = b := by simp [upB]
      rw [hB]
      refine ⟨?_, fun hi => ?_, ?_, hbl⟩
      · rw [hrp]
        have := patch_in (l := c.page (3 + o.i / 8)) (o := 64 * (o.i % 8)) (b := o.recB) (by omega)
        rw [hrl] at this; exact this
      · unfold Csh.save
        rw [if_neg hi, Csh.write_page, if_pos rfl]
      · rw [← hb]
        refine flatMap_congr' fun x hx => hr1 x ?_ ?_
        · have := (h.pg (n := x) (by simp [Opn.own, hx])).1; omega
        · intro hh
          subst hh
          have hi0 : o.ind ≠ 0 := by have := (h.pg (n := o.ind) (by simp [Opn.own, hx])).2.2.2; omega
          rw [Opn.own, if_neg hi0, List.nodup_append] at hnd
          exact hnd.2.2 _ hx _ (by simp) rfl
    · rw [upF_ne hji] at hj
      have hB : upB B i b j = B j := by simp [upB, hji]
      rw [hB]
      obtain ⟨hn1, hn2⟩ := h.rpage hji hj
      refine (h.recs j oj hji hj).keep ?_ fun x hx => ?_
      · by_cases he : oj.i / 8 = o.i / 8
        · rw [he, hrp]
          have hne : oj.i % 8 ≠ o.i % 8 := fun hh => hji (by rw [← hn1, ← hnum.1]; omega)
          refine List.ext_getElem? fun x => ?_
          rw [List.getElem?_take, List.getElem?_take]
          split
          · rw [List.getElem?_drop, List.getElem?_drop, patch_out (by omega) (by omega)]
          · rfl
        · rw [hr1 _ (by omega) (fun hh => ?_)]
          by_cases hi : o.ind = 0
          · omega
          · have := hip hi; omega
      · obtain ⟨h3, h4, h5⟩ := h.other hji hj hx
        refine hr1 x (by omega) fun hh => ?_
        subst hh
        by_cases hi : o.ind = 0
        · omega
        · exact h5 (by simp [Opn.own, hi])
end Go.Proofs.YtienelpepioggaaGreat

/- A file gets pages, or gives them back: what stands behind each step. -/
namespace Go.Proofs.YtienelpepioggaaGreat
open Go
set_option linter.unusedSimpArgs false
theorem freeN_off : ∀ {l : List Bool} {i : Nat}, l[i]? = some true → freeN (l.set i false) = freeN l + 1
  | true :: l, 0, _ => by simp [freeN]
  | a :: l, i + 1, h => by
    have h1 := freeN_off (l := l) (i := i) (by simpa using h)
    unfold freeN at h1 ⊢
    rw [List.set_cons_succ, List.count_cons, List.count_cons, h1]; omega
theorem freeN_on : ∀ {l : List Bool} {i : Nat}, l[i]? = some false → freeN (l.set i true) + 1 = freeN l
  | false :: l, 0, _ => by simp [freeN]
  | a :: l, i + 1, h => by
    have h1 := freeN_on (l := l) (i := i) (by simpa using h)
    unfold freeN at h1 ⊢
    rw [List.set_cons_succ, List.count_cons, List.count_cons, ← h1]; omega
theorem freeN_zero {l : List Bool} (h : firstN l = l.length) : freeN l = 0 := by
  unfold freeN
  rw [List.count_eq_zero]
  intro hm
  obtain ⟨i, hi⟩ := List.mem_iff_getElem?.1 hm
  have := (List.getElem?_eq_some_iff.1 hi).1
  rw [firstN_lt (by omega)] at hi; cases hi
/-- Why there is no room: too few pages are free, or the cache takes no more. -/
def NoRoom (c : Csh) (free want most : Nat) : Prop := free < want ∨ (c.cap < c.N ∧ c.cap < c.dirty.length + most)
theorem NoRoom.mono {c : Csh} {free want want' most most' : Nat} (h : NoRoom c free want most) (h1 : want ≤ want') (h2 : most ≤ most') : NoRoom c free want' most' := by
  rcases h with h | ⟨h, h3⟩
  · exact .inl (by omega)
  · exact .inr ⟨h, by omega⟩
theorem Dty.nofitN {L : List Nat} {c c' : Csh} (h : Dty L c c') {l : List Int} (hl : ∀ x ∈ l, 0 ≤ x ∧ x < c.N) (hf : c'.fits l = false) : c.cap < c.N := by
  have hf : ¬ (fitK c' l).length ≤ c'.cap := of_decide_eq_false hf
  have hnd : (fitK c' l).Nodup := fold_nd l _ (zs_nodup (dirty_nodup c'))
  have := List.Nodup.length_le_of_subset hnd (l₂ := zs (List.range c.N)) (fun x hx => by
    rcases fold_mem l _ x hx with hx | hx
    · obtain ⟨n, hn, rfl⟩ := List.mem_map.1 hx
      have := dirty_lt hn
      rw [h.N] at this
      exact mem_zs.2 (List.mem_range.2 this)
    · obtain ⟨h0, h1⟩ := hl x hx
      obtain ⟨n, rfl⟩ : ∃ n : Nat, x = n := ⟨x.toNat, by omega⟩
      exact mem_zs.2 (List.mem_range.2 (by omega)))
  rw [zs_len, List.length_range] at this
  have := h.cap
  omega
/-- How many pages an inode has. -/
theorem Opn.own_len {o : Opn} (h : o.ind = 0 ↔ o.data.length ≤ 10) : o.own.length = if 10 < o.data.length then o.data.length + 1 else o.data.length := by
  unfold Opn.own
  by_cases hi : o.ind = 0
  · rw [if_pos hi, if_neg (by have := h.1 hi; omega)]; simp
  · rw [if_neg hi, if_pos (by rcases Nat.lt_or_ge 10 o.data.length with h1 | h1; exact h1; exact absurd (h.2 h1) hi)]; simp
theorem Opn.Ok.own_len {o : Opn} (h : o.Ok) : o.own.length = needN o.size := by
  rw [Opn.own_len h.ind, h.data, needN]
/-- All that does not hang on the pages stays. -/
structure Opn.Like (o o' : Opn) : Prop where
  kind : o'.kind = o.kind
  mode : o'.mode = o.mode
  links : o'.links = o.links
  size : o'.size = o.size
  i : o'.i = o.i
theorem Opn.Like.refl (o : Opn) : o.Like o := ⟨rfl, rfl, rfl, rfl, rfl⟩
theorem Opn.Like.trans {a b c : Opn} (h : a.Like b) (h' : b.Like c) : a.Like c := ⟨h'.kind.trans h.kind, h'.mode.trans h.mode, h'.links.trans h.links, h'.size.trans h.size, h'.i.trans h.i⟩
section
variable {c0 c : Csh} {P0 P I : List Bool} {F : Nat → Option Opn} {B : Nat → List UInt8} {i n : Nat} {o0 o o' : Opn}
/-- While a file grows. -/
structure Grw (c0 : Csh) (P0 : List Bool) (o0 : Opn) (I : List Bool) (F : Nat → Option Opn) (B : Nat → List UInt8) (i : Nat) (c : Csh) (P : List Bool) (o : Opn) : Prop where
  mid : FMid c P I F B i o
  free : freeN P + o.own.length = freeN P0 + o0.own.length
  dty : Dty (2 :: o.own) c0 c
  like : o0.Like o
  le : o0.data.length ≤ o.data.length
  flat : o.data.flatMap c.page = o0.data.flatMap c0.page ++ List.replicate (512 * (o.data.length - o0.data.length)) 0
theorem Grw.refl (h : FMid c P I F B i o) : Grw c P o I F B i c P o := ⟨h, rfl, .refl _ _, .refl _, Nat.le_refl _, by simp⟩
/-- The pages that are touched when one more is taken. -/
theorem Grw.take_dty (h : Grw c0 P0 o0 I F B i c P o) {n : Nat} : Dty (2 :: n :: o.own) c0 (c.taken n) :=
  (h.dty.mono (fun x hx => by rcases List.mem_cons.1 hx with rfl | hx; simp; simp [hx])).trans (taken_dty.mono (fun x hx => by rcases List.mem_cons.1 hx with rfl | hx; simp; simp at hx; simp [hx]))
theorem zsec_eq : zsec = List.replicate 512 0 := rfl
/-- A page of bytes more. -/
theorem Grw.data (h : Grw c0 P0 o0 I F B i c P o) (hl : (c.page 2).length = 512) (hn : firstN P < P.length) : Grw c0 P0 o0 I F B i (c.taken (firstN P)) (P.set (firstN P) true) { o with data := o.data ++ [firstN P] } := by
  have hp : ({ o with data := o.data ++ [firstN P] } : Opn).own.Perm (firstN P :: o.own) := by
    simp only [Opn.own, List.append_assoc]
    exact List.perm_middle
  have hf := freeN_on (firstN_at hn)
  have hle := h.le
  refine ⟨h.mid.take hl hn hp rfl, by rw [hp.length_eq, List.length_cons]; have := h.free; omega, h.take_dty.mono (fun x hx => ?_), h.like.trans ⟨rfl, rfl, rfl, rfl, rfl⟩, by simp; omega, ?_⟩
  · rcases List.mem_cons.1 hx with rfl | hx
    · simp
    · exact List.mem_cons.2 (.inr (hp.mem_iff.2 hx))
  · rw [List.flatMap_append, h.mid.take_flat hn (fun x hx => by simp [Opn.own, hx]), h.flat, List.flatMap_singleton, taken_page_n, zsec_eq, List.append_assoc, List.replicate_append_replicate, List.length_append, List.length_singleton]
    congr 2; omega
/-- An indirect page. -/
theorem Grw.ind (h : Grw c0 P0 o0 I F B i c P o) (hl : (c.page 2).length = 512) (hn : firstN P < P.length) (hi : o.ind = 0) : Grw c0 P0 o0 I F B i (c.taken (firstN P)) (P.set (firstN P) true) { o with ind := firstN P } := by
  have h0 : firstN P ≠ 0 := by have := h.mid.alc.first; omega
  have hp : ({ o with ind := firstN P } : Opn).own.Perm (firstN P :: o.own) := by
    simp only [Opn.own, if_neg h0, if_pos hi, List.append_nil]
    exact List.perm_append_singleton _ _
  have hf := freeN_on (firstN_at hn)
  refine ⟨h.mid.take hl hn hp rfl, by rw [hp.length_eq, List.length_cons]; have := h.free; omega, h.take_dty.mono (fun x hx => ?_), h.like.trans ⟨rfl, rfl, rfl, rfl, rfl⟩, h.le, ?_⟩
  · rcases List.mem_cons.1 hx with rfl | hx
    · simp
    · exact List.mem_cons.2 (.inr (hp.mem_iff.2 hx))
  · exact (h.mid.take_flat hn (fun x hx => by simp [Opn.own, hx])).trans h.flat
/-- No page could be taken. -/
theorem Grw.stop (h : Grw c0 P0 o0 I F B i c P o) {want : Nat} (hw : o.own.length < want) (hf : firstN P < P.length → c.fits [2, (firstN P : Int)] = false) : NoRoom c0 (freeN P0 + o0.own.length) want (1 + want) := by
  have hfr := h.free
  by_cases hn : firstN P < P.length
  · right
    have hd : Dty (2 :: firstN P :: o.own) c0 c := h.dty.mono (fun x hx => by rcases List.mem_cons.1 hx with rfl | hx; simp; simp [hx])
    have hN := h.mid.num
    refine ⟨h.dty.nofitN (l := [2, (firstN P : Int)]) (fun x hx => ?_) (hf hn), ?_⟩
    · have := h.dty.N
      simp at hx
      rcases hx with rfl | rfl <;> omega
    · have := hd.nofit (l := [2, (firstN P : Int)]) (fun x hx => by
        simp at hx
        rcases hx with rfl | rfl
        · exact ⟨2, by simp, rfl⟩
        · exact ⟨firstN P, by simp, rfl⟩) (hf hn)
      rw [List.length_cons, List.length_cons] at this
      omega
  · left
    have := freeN_zero (l := P) (by have := firstN_le P; omega)
    omega
/-- While a file shrinks. -/
structure Shr (c0 : Csh) (P0 : List Bool) (o0 : Opn) (I : List Bool) (F : Nat → Option Opn) (B : Nat → List UInt8) (i : Nat) (c : Csh) (P : List Bool) (o : Opn) : Prop where
  mid : FMid c P I F B i o
  free : freeN P + o.own.length = freeN P0 + o0.own.length
  dty : Dty [2] c0 c
  like : o0.Like o
  le : o.data.length ≤ o0.data.length
  flat : o.data.flatMap c.page = (o0.data.flatMap c0.page).take (512 * o.data.length)
theorem Shr.refl (h : FMid c P I F B i o) (hp : ∀ n ∈ o.data, (c.page n).length = 512) : Shr c P o I F B i c P o :=
  ⟨h, rfl, .refl _ _, .refl _, Nat.le_refl _, by rw [List.take_of_length_le (by rw [flat_length hp]; exact Nat.le_refl _)]⟩
theorem drop_last {l : List Nat} (h : l ≠ []) : l = l.dropLast ++ [l.getD (l.length - 1) 0] := by
  have hl := List.length_pos_iff.2 h
  rw [List.getD_eq_getElem?_getD, List.getElem?_eq_getElem (by omega)]
  simp only [Option.getD_some]
  rw [← List.getLast_eq_getElem h, List.dropLast_concat_getLast]
/-- A page of bytes less. -/
theorem Shr.data (h : Shr c0 P0 o0 I F B i c P o) (hl : (c.page 2).length = 512) (hd : o.data ≠ []) (hp : ∀ n ∈ o.data, (c.page n).length = 512) : Shr c0 P0 o0 I F B i (c.turnP (o.data.getD (o.data.length - 1) 0)) (P.set (o.data.getD (o.data.length - 1) 0) false) { o with data := o.data.dropLast } := by
  generalize hn : o.data.getD (o.data.length - 1) 0 = n
  have hdl := drop_last hd
  rw [hn] at hdl
  have hperm : o.own.Perm (n :: ({ o with data := o.data.dropLast } : Opn).own) := by
    simp only [Opn.own]
    conv => lhs; lhs; rw [hdl]
    rw [List.append_assoc]
    exact List.perm_middle
  have hm : n ∈ o.own := hperm.mem_iff.2 (by simp)
  obtain ⟨h1, h2, _⟩ := h.mid.pg hm
  have hf := freeN_off h2
  have hle := h.le
  refine ⟨h.mid.give hl hperm rfl, by have := h.free; rw [hperm.length_eq, List.length_cons] at this; omega, h.dty.trans turnP_dty, h.like.trans ⟨rfl, rfl, rfl, rfl, rfl⟩, by simp; omega, ?_⟩
  rw [h.mid.give_flat (fun x hx => by simp [Opn.own, List.dropLast_subset _ hx]), List.dropLast_eq_take]
  rw [flat_take hp (by omega), h.flat, List.take_take]
  congr 1
  simp only [List.length_take]
  omega
/-- The indirect page is given back. -/
theorem Shr.ind (h : Shr c0 P0 o0 I F B i c P o) (hl : (c.page 2).length = 512) (hi : o.ind ≠ 0) : Shr c0 P0 o0 I F B i (c.turnP o.ind) (P.set o.ind false) { o with ind := 0 } := by
  have hperm : o.own.Perm (o.ind :: ({ o with ind := 0 } : Opn).own) := by
    simp only [Opn.own, if_neg hi, if_true, List.append_nil]
    exact List.perm_append_singleton _ _
  obtain ⟨h1, h2, _⟩ := h.mid.pg (n := o.ind) (hperm.mem_iff.2 (by simp))
  have hf := freeN_off h2
  refine ⟨h.mid.give hl hperm rfl, by have := h.free; rw [hperm.length_eq, List.length_cons] at this; omega, h.dty.trans turnP_dty, h.like.trans ⟨rfl, rfl, rfl, rfl, rfl⟩, h.le, ?_⟩
  rw [← h.flat]
  exact h.mid.give_flat (fun x hx => by simp [Opn.own, hx])
theorem Shr.stop (h : Shr c0 P0 o0 I F B i c P o) (hf : c.fits [2] = false) : c0.cap < c0.N ∧ c0.cap < c0.dirty.length + 1 := by
  have hN := h.mid.num
  have := h.dty.N
  refine ⟨h.dty.nofitN (l := [2]) (fun x hx => ?_) hf, ?_⟩
  · simp at hx; subst hx; omega
  · exact h.dty.nofit (l := [2]) (fun x hx => by simp at hx; subst hx; exact ⟨2, by simp, rfl⟩) hf
end
/-- A file's pages and its bytes. -/
structure Holds (c : Csh) (o : Opn) (b : List UInt8) : Prop where
  flat : o.data.flatMap c.page = b ++ List.replicate (512 * o.data.length - o.size) 0
  len : b.length = o.size
theorem rszB_grow {b : List UInt8} {s d d' : Nat} (hb : b.length ≤ s) (h1 : b.length ≤ 512 * d) (h2 : s ≤ 512 * d') (h3 : d ≤ d') :
    b ++ List.replicate (512 * d - b.length) 0 ++ List.replicate (512 * (d' - d)) 0 = rszB b s ++ List.replicate (512 * d' - s) 0 := by
  rw [rszB, List.take_of_length_le hb, List.append_assoc, List.append_assoc, List.replicate_append_replicate, List.replicate_append_replicate]
  congr 2; omega
theorem rszB_cut {b : List UInt8} {s d d' : Nat} (hb : s ≤ b.length) (h1 : b.length ≤ 512 * d) (h2 : 512 * d' = s) :
    (b ++ List.replicate (512 * d - b.length) 0).take (512 * d') = rszB b s ++ List.replicate (512 * d' - s) 0 := by
  rw [rszB, List.take_append_of_le_length (by omega), h2, Nat.sub_self, show s - b.length = 0 from by omega]; simp
theorem rszB_clear {b : List UInt8} {s d d' r : Nat} (hb : s ≤ b.length) (h1 : b.length ≤ 512 * d) (h2 : 512 * d' + r = s) (hr : r < 512) (hd : d' + 1 ≤ d) :
    patch ((b ++ List.replicate (512 * d - b.length) 0).take (512 * (d' + 1))) (512 * d' + r) (List.replicate (512 - r) 0) = rszB b s ++ List.replicate (512 * (d' + 1) - s) 0 := by
  have hl : ((b ++ List.replicate (512 * d - b.length) 0).take (512 * (d' + 1))).length = 512 * (d' + 1) := by
    simp; omega
  rw [patch, h2, List.take_take, Nat.min_eq_left (by omega), List.take_append_of_le_length (by omega), List.length_replicate, List.drop_eq_nil_of_le (by rw [hl]; omega), rszB, show s - b.length = 0 from by omega]
  simp only [List.replicate_zero, List.append_nil]
  congr 2; omega
end Go.Proofs.YtienelpepioggaaGreat

/- resize: a file has a size. -/
namespace Go.Proofs.YtienelpepioggaaGreat
open Go
set_option linter.unusedSimpArgs false
open Go.RowKit (intOf)
theorem slcV_from {g o len cap : Nat} {kx : IntKind} {lo : Int} {a : Nat} (h0 : lo = a) (h2 : a < len) (h3 : len ≤ cap) :
    slcV 1 (some ⟨g, o, none⟩) len cap (some (.int kx lo)) none none = some (.slice (some ⟨g, o + a, none⟩) (len - a) (cap - a)) := by
  subst h0
  simp only [slcV, bndV, Option.isSome_none, Bool.false_eq_true, if_false]
  rw [if_pos ⟨by omega, by omega⟩]
  simp only [Int.toNat_natCast]
  rw [if_neg (by omega)]
  simp [add_lit]
section
variable {P I : List Bool} {F : Nat → Option Opn} {B : Nat → List UInt8} {i : Nat} {o o' : Opn} {c : Csh}
theorem FOwn.like (h : FOwn P I (upF F i (some o))) (ho : o'.own = o.own) (hi : o'.i = o.i) : FOwn P I (upF F i (some o')) := by
  have key : ∀ {j oj}, upF F i (some o') j = some oj → ∃ ox, upF F i (some o) j = some ox ∧ ox.own = oj.own ∧ ox.i = oj.i := fun {j oj} hj => by
    by_cases hji : j = i
    · subst hji; rw [upF_same] at hj; cases hj; exact ⟨o, upF_same, ho.symm, hi.symm⟩
    · rw [upF_ne hji] at hj; exact ⟨oj, by rw [upF_ne hji]; exact hj, rfl, rfl⟩
  have back : ∀ {j oj}, upF F i (some o) j = some oj → ∃ ox, upF F i (some o') j = some ox ∧ ox.own = oj.own := fun {j oj} hj => by
    by_cases hji : j = i
    · subst hji; rw [upF_same] at hj; cases hj; exact ⟨o', upF_same, ho⟩
    · rw [upF_ne hji] at hj; exact ⟨oj, by rw [upF_ne hji]; exact hj, rfl⟩
  refine ⟨fun j oj hj => ?_, fun j h1 h2 => ?_, fun j oj x hj hx => ?_, fun j j' oj oj' x hj hj' hx hx' => ?_, fun j oj hj => ?_, fun x hx hPx => ?_⟩
  · obtain ⟨ox, h1, h2, h3⟩ := key hj
    have := h.num j ox h1
    rw [h3] at this; exact this
  · obtain ⟨oj, ho⟩ := h.used j h1 h2
    obtain ⟨ox, h3, _⟩ := back ho
    exact ⟨ox, h3⟩
  · obtain ⟨ox, h1, h2, h3⟩ := key hj
    exact h.page j ox x h1 (by rw [h2]; exact hx)
  · obtain ⟨ox, h1, h2, h3⟩ := key hj
    obtain ⟨oy, h4, h5, h6⟩ := key hj'
    exact h.apart j j' ox oy x h1 h4 (by rw [h2]; exact hx) (by rw [h5]; exact hx')
  · obtain ⟨ox, h1, h2, h3⟩ := key hj
    have := h.nodup j ox h1
    rw [h2] at this; exact this
  · obtain ⟨j, oj, h1, h2⟩ := h.all x hx hPx
    obtain ⟨ox, h3, h4⟩ := back h1
    exact ⟨j, ox, h3, by rw [h4]; exact h2⟩
theorem FMid.alike (h : FMid c P I F B i o) (ho : o'.own = o.own) (hi : o'.i = o.i) : FMid c P I F B i o' := ⟨h.alc, h.own.like ho hi, h.ok, h.recs⟩
end
/-- A file has got a size. -/
structure Rsz (c : Csh) (P I : List Bool) (F : Nat → Option Opn) (B : Nat → List UInt8) (i : Nat) (o : Opn) (b : List UInt8) (size : Nat) (c' : Csh) (P' : List Bool) (o' : Opn) : Prop where
  mid : FMid c' P' I F B i o'
  ok : o'.Ok
  sz : o'.size = size
  kind : o'.kind = o.kind
  mode : o'.mode = o.mode
  links : o'.links = o.links
  num : o'.i = o.i
  holds : Holds c' o' (rszB b size)
  free : freeN P' + needN size = freeN P + needN o.size
  dty : Dty (2 :: o'.own) c c'
theorem Grw.done {c0 c : Csh} {P0 P I : List Bool} {F : Nat → Option Opn} {B : Nat → List UInt8} {i : Nat} {o0 o : Opn} {b : List UInt8} {size : Nat} (h : Grw c0 P0 o0 I F B i c P o) (hok : o0.Ok) (hb : Holds c0 o0 b) (h1 : o0.size ≤ size) (h2 : size ≤ 70656) (hd : o.data.length = pagesN size) (hi : o.ind = 0 ↔ pagesN size ≤ 10) :
    Rsz c0 P0 I F B i o0 b size c P { o with size := size } := by
  have ho : ({ o with size := size } : Opn).Ok := ⟨by show 1 ≤ o.kind ∧ o.kind ≤ 3; rw [h.like.kind]; exact hok.kind, by show o.mode ≤ 4095; rw [h.like.mode]; exact hok.mode, by show o.links ≤ 65535; rw [h.like.links]; exact hok.links, h2, hd, by show o.ind = 0 ↔ o.data.length ≤ 10; rw [hd]; exact hi⟩
  have hbl := hb.len
  have hp0 : pagesN o0.size ≤ pagesN size := by unfold pagesN; omega
  have hfl := h.flat
  rw [hb.flat, hok.data, hd, ← hbl, rszB_grow (s := size) (by omega) (by unfold pagesN; omega) (by unfold pagesN; omega) (by rw [hbl]; exact hp0)] at hfl
  refine ⟨h.mid.alike rfl rfl, ho, rfl, h.like.kind, h.like.mode, h.like.links, h.like.i, ⟨?_, rszB_length _ _⟩, ?_, h.dty⟩
  · show o.data.flatMap c.page = _
    rw [hfl]
    show _ = rszB b size ++ List.replicate (512 * o.data.length - size) 0
    rw [hd]
  · have := h.free
    have h3 := ho.own_len
    rw [hok.own_len] at this
    have h4 : ({ o with size := size } : Opn).own = o.own := rfl
    rw [h4] at h3
    show freeN P + needN size = _
    have h5 : needN ({ o with size := size } : Opn).size = needN size := rfl
    omega
theorem Shr.done {c0 c : Csh} {P0 P I : List Bool} {F : Nat → Option Opn} {B : Nat → List UInt8} {i : Nat} {o0 o : Opn} {b : List UInt8} {size : Nat} (h : Shr c0 P0 o0 I F B i c P o) (hok : o0.Ok) (h1 : size ≤ o0.size) (hd : o.data.length = pagesN size) (hi : o.ind = 0 ↔ pagesN size ≤ 10)
    {c' : Csh} (hm : FMid c' P I F B i o) (hdt : Dty (2 :: o.own) c0 c') (hfl : o.data.flatMap c'.page = rszB b size ++ List.replicate (512 * pagesN size - size) 0) :
    Rsz c0 P0 I F B i o0 b size c' P { o with size := size } := by
  have hs := hok.size
  have ho : ({ o with size := size } : Opn).Ok := ⟨by show 1 ≤ o.kind ∧ o.kind ≤ 3; rw [h.like.kind]; exact hok.kind, by show o.mode ≤ 4095; rw [h.like.mode]; exact hok.mode, by show o.links ≤ 65535; rw [h.like.links]; exact hok.links, by show size ≤ 70656; omega, hd, by show o.ind = 0 ↔ o.data.length ≤ 10; rw [hd]; exact hi⟩
  refine ⟨hm.alike rfl rfl, ho, rfl, h.like.kind, h.like.mode, h.like.links, h.like.i, ⟨?_, rszB_length _ _⟩, ?_, hdt⟩
  · show o.data.flatMap c'.page = _
    rw [hfl]
    show _ = rszB b size ++ List.replicate (512 * o.data.length - size) 0
    rw [hd]
  · have := h.free
    have h3 := ho.own_len
    rw [hok.own_len] at this
    have h4 : ({ o with size := size } : Opn).own = o.own := rfl
    rw [h4] at h3
    show freeN P + needN size = _
    have h5 : needN ({ o with size := size } : Opn).size = needN size := rfl
    omega
section
variable {G : Gh} {κ μ m p lq came s q i : Nat} {w : World} {c : Csh} {P I : List Bool} {F : Nat → Option Opn} {B : Nat → List UInt8} {o : Opn} {b : List UInt8} {size : Nat}
/-- What resize leaves. -/
def RszR (G : Gh) (κ μ : Nat) (w : World) (m p lq came : Nat) (c : Csh) (P I : List Bool) (F : Nat → Option Opn) (B : Nat → List UInt8) (i q : Nat) (o : Opn) (b : List UInt8) (size : Nat) (w' : World) : Prop :=
  ∃ G' c' P' o', Ext (fun x => x = μ ∨ x = 6) G w G' w' ∧ MapAt G' κ μ w' m p lq came c' P' I ∧ OpnAt w' q o' ∧ (G'.own q = 6 ∧ G'.fix q = 0) ∧ Rsz c P I F B i o b size c' P' o'
/-- What stands when there was no room. -/
def Stop (K : Nat → Prop) (G : Gh) (κ μ : Nat) (w : World) (m p lq came k : Nat) (c : Csh) (free want most : Nat) (w' : World) : Prop :=
  ∃ G' c' L, Ext K G w G' w' ∧ MapC G' κ μ w' m p lq came c' k ∧ Dty L c c' ∧ NoRoom c free want most
set_option maxRecDepth 20000 in
set_option maxHeartbeats 4000000 in
theorem resize_grow (h : MapAt G κ μ w m p lq came c P I) (hs : StoreAt G w s m) (hq : OpnAt w q o) (ho : G.own q = 6 ∧ G.fix q = 0) (hm : FMid c P I F B i o) (hok : o.Ok) (hb : Holds c o b) (hsz : size ≤ 70656) (hgr : o.size ≤ size) :
    Calls Tryz.prog 37 #[.pointer (some ⟨s, 0, none⟩), .pointer (some ⟨q, 0, none⟩), .int .i64 size] w (RetF (fun _ w' => RszR G κ μ w m p lq came c P I F B i q o b size w')
      (fun w' => Stop (fun x => x = μ ∨ x = 6) G κ μ w m p lq came I.length c (freeN P + needN o.size) (needN size) (1 + needN size) w')) := by
  obtain ⟨hne1, hne2, hne3⟩ := h.1.cache.ne
  have h6 := h.1.ne
  have hos := hok.size
  have hod := hok.data
  have hoi := hok.ind
  have hp1 : pagesN size ≤ 138 := pagesN_le hsz
  have hpm : pagesN o.size ≤ pagesN size := by unfold pagesN; omega
  have hnd : needN size = if 10 < pagesN size then pagesN size + 1 else pagesN size := rfl
  have hx6 : ∀ x, x = μ → x = μ ∨ x = 6 := fun x hh => .inl hh
  have hx6' : ∀ x, x = 6 → x = μ ∨ x = 6 := fun x hh => .inr hh
  have hown := hok.own_len
  apply enter37
  apply R_in
  have hc3 := hq.cell (j := 3) (by omega)
  rw [show o.cell 3 = o.size from rfl] at hc3
  simp (maxSteps := 1000000) (disch := omega) only [↓sy1, sy2, sy3, readOK, sy5, sy6, Nat.reduceEqDiff, ↓reduceIte, sy7, sy8, sy9, sya, oneOf, syb, syc, Nat.reduceAdd, Nat.reduceMul, syd, sye, syf, syg, syh, reduceCtorEq, F37, hc3]
  refine call0 (ipages_spec (n := o.size) (by omega)) ?_
  rintro _ w1 ⟨rfl, hw1⟩
  subst w1
  simp (maxSteps := 1000000) (disch := omega) only [↓sy1, sy2, sy3, readOK, sy5, sy6, Nat.reduceEqDiff, ↓reduceIte, sy7, sy8, sy9, sya, oneOf, syb, syc, Nat.reduceAdd, Nat.reduceMul, syd, sye, syf, syg, syh, reduceCtorEq]
  refine loop_rule (fun e w' => ∃ (k : Nat) (G' : Gh) (c' : Csh) (P' : List Bool) (o' : Opn), k ≤ pagesN size ∧ e 6 = .int .i64 k ∧ e 0 = .pointer (some ⟨s, 0, none⟩) ∧ e 1 = .pointer (some ⟨q, 0, none⟩) ∧ e 2 = .int .i64 size ∧
      Ext (fun x => x = μ ∨ x = 6) G w G' w' ∧ MapAt G' κ μ w' m p lq came c' P' I ∧ StoreAt G' w' s m ∧ OpnAt w' q o' ∧ (G'.own q = 6 ∧ G'.fix q = 0) ∧ Grw c P o I F B i c' P' o' ∧ o'.data.length = k ∧ (o'.ind = 0 ↔ k ≤ 10)) (fun e _ => pagesN size - (intOf (e 6)).toNat)
    ⟨pagesN o.size, G, c, P, o, hpm, by simp [upd, updO, ev], by simp [upd, updO, ev], by simp [upd, updO, ev], by simp [upd, updO, ev], .refl _ _ _, h, hs, hq, ho, .refl hm, hod, by rw [← hod]; exact hoi⟩ ?_
  rintro e w2 ⟨k, G2, c2, P2, o2, hk, e6, e0, e1, e2, hx2, h2, hs2, hq2, ho2, hg2, hl2, hi2⟩
  simp (maxSteps := 1000000) (disch := omega) only [↓sy1, sy2, sy3, readOK, sy5, sy6, Nat.reduceEqDiff, ↓reduceIte, sy7, sy8, sy9, sya, oneOf, syb, syc, Nat.reduceAdd, Nat.reduceMul, syd, sye, syf, syg, syh, reduceCtorEq, F37_L0, e6, e0, e1, e2]
  refine call0 (ipages_spec (n := size) (by omega)) ?_
  rintro _ w3 ⟨rfl, hw3⟩
  subst w3
  by_cases hlt : k < pagesN size
  · have step : ∀ (G3 : Gh) (w3 : World) (c3 : Csh) (P3 : List Bool) (o3 : Opn), Ext (fun x => x = μ ∨ x = 6) G w G3 w3 → MapAt G3 κ μ w3 m p lq came c3 P3 I → StoreAt G3 w3 s m → OpnAt w3 q o3 → (G3.own q = 6 ∧ G3.fix q = 0) → Grw c P o I F B i c3 P3 o3 → o3.data.length = k → (o3.ind = 0 ↔ k + 1 ≤ 10) →
        (Calls Tryz.prog 72 #[.pointer (some ⟨s, 0, none⟩)] w3 (RetF (fun v w' => ∃ G5 w5 c5 P5 o5 n, v = .int .i64 ((n : Nat) : Int) ∧ w' = w5 ∧ ∃ w6, stF w5 (.pointer (some ⟨q, slotJ k, none⟩)) (.int .i64 ((n : Nat) : Int)) = some (undef, w6) ∧ Ext (fun x => x = μ ∨ x = 6) G w G5 w6 ∧ MapAt G5 κ μ w6 m p lq came c5 P5 I ∧ StoreAt G5 w6 s m ∧ OpnAt w6 q o5 ∧ (G5.own q = 6 ∧ G5.fix q = 0) ∧ Grw c P o I F B i c5 P5 o5 ∧ o5.data.length = k + 1 ∧ (o5.ind = 0 ↔ k + 1 ≤ 10))
          (fun w' => Stop (fun x => x = μ ∨ x = 6) G κ μ w m p lq came I.length c (freeN P + needN o.size) (needN size) (1 + needN size) w'))) := by
      intro G3 w3 c3 P3 o3 hx3 h3 hs3 hq3 ho3 hg3 hl3 hi3
      have hol3 : o3.own.length < needN size := by
        have : o3.own.length = if o3.ind = 0 then k else k + 1 := by
          unfold Opn.own
          split <;> simp [hl3]
        rw [this, hnd]
        split <;> split <;> omega
      refine RetF.mono (itake_spec h3 hs3) ?_ ?_
      · rintro v w5 ⟨rfl, hfn, G5, hx5, h5⟩
        have hq5 : OpnAt w5 q o3 := hx5.heap hq3 (by rw [ho3.1]; omega)
        have ho5 : G5.own q = 6 ∧ G5.fix q = 0 := by rw [hx5.own _ hq3.lt, hx5.fixe _ hq3.lt (by rw [ho3.1]; omega)]; exact ho3
        have hset := Opn.cells_snoc o3 (x := firstN P3) (by omega)
        rw [hl3] at hset
        obtain ⟨w6, st6, hq6, hk6⟩ := OpnAt.store hq5 (j := slotJ k) (slotJ_lt (by omega)) (u := .int .i64 (firstN P3 : Nat)) rfl hset
        have hxs : Ext (fun x => x = 6) G5 w5 G5 w6 := .on0 hk6 ho5.1 ho5.2
        refine ⟨G5, w5, _, _, _, firstN P3, rfl, rfl, w6, st6, (hx3.trans (hx5.mono hx6)).trans (hxs.mono hx6'), h5.ext hxs h6.1 h6.2 (by omega), (hs3.ext hx5 (fun hh => hne2 hh.symm)).ext hxs (by omega), hq6, ho5, hg3.data h3.facts.2.2.2.2.2.2.2 hfn, by simp [hl3], hi3⟩
      · rintro w5 ⟨hf, G5, hx5, h5⟩
        refine ⟨G5, c3, _, hx3.trans (hx5.mono hx6), h5.1, hg3.dty, ?_⟩
        have := hg3.stop hol3 hf
        rw [hown] at this; exact this
    by_cases h10 : k = 10
    · subst h10
      have hind0 : o2.ind = 0 := hi2.2 (by omega)
      have hol2 : o2.own.length < needN size := by
        have : o2.own.length = 10 := by unfold Opn.own; rw [if_pos hind0]; simp [hl2]
        rw [this, hnd]; split <;> omega
      simp (maxSteps := 1000000) (disch := omega) only [↓sy1, sy2, sy3, readOK, sy5, sy6, Nat.reduceEqDiff, ↓reduceIte, sy7, sy8, sy9, sya, oneOf, syb, syc, Nat.reduceAdd, Nat.reduceMul, syd, sye, syf, syg, syh, reduceCtorEq, e6, e0, e1, e2, show ((10 : Nat) : Int) = 10 from rfl, show (10 : Int) < ((pagesN size : Nat) : Int) from by omega, decide_true]
      refine draw37_0 (fun _ => False) ?_
      have hgd : Grow w2 w2.drew := (Keep.refl _ _).drew
      have hx3 := hx2.trans (.grow hgd)
      have h3 := h2.grow hgd
      have hs3 := hs2.grow hgd
      have hq3 := hq2.keep hgd id
      generalize w2.drew = w3 at hgd hx3 h3 hs3 hq3 ⊢
      simp (maxSteps := 1000000) (disch := omega) only [↓sy1, sy2, sy3, readOK, sy5, sy6, Nat.reduceEqDiff, ↓reduceIte, sy7, sy8, sy9, sya, oneOf, syb, syc, Nat.reduceAdd, Nat.reduceMul, syd, sye, syf, syg, syh, reduceCtorEq, PL37_0, e0, e1]
      refine callF (itake_spec h3 hs3) ?_ ?_
      · rintro w5 ⟨hf, G5, hx5, h5⟩
        refine ⟨rfl, G5, c2, _, hx3.trans (hx5.mono hx6), h5.1, hg2.dty, ?_⟩
        have := hg2.stop hol2 hf
        rw [hown] at this; exact this
      rintro _ w5 ⟨rfl, hfn, G5, hx5, h5⟩
      have hq5 : OpnAt w5 q o2 := hx5.heap hq3 (by rw [ho2.1]; omega)
      have ho5 : G5.own q = 6 ∧ G5.fix q = 0 := by rw [hx5.own _ hq3.lt, hx5.fixe _ hq3.lt (by rw [ho2.1]; omega)]; exact ho2
      obtain ⟨w6, st6, hq6, hk6⟩ := OpnAt.store hq5 (j := 14) (by omega) (u := .int .i64 (firstN P2 : Nat)) rfl (Opn.cells_ind _ _)
      have hxs : Ext (fun x => x = 6) G5 w5 G5 w6 := .on0 hk6 ho5.1 ho5.2
      have hgi := hg2.ind h3.facts.2.2.2.2.2.2.2 hfn hind0
      have hf1 : firstN P2 ≠ 0 := by have := h2.2.first; omega
      have hia : iaaF 11 1 (.pointer (some ⟨q, 4, none⟩)) (.int .i64 10) = some (.pointer (some ⟨q, 14, none⟩)) := rfl
      have hst := step G5 w6 _ _ _ ((hx3.trans (hx5.mono hx6)).trans (hxs.mono hx6')) (h5.ext hxs h6.1 h6.2 (by omega)) ((hs3.ext hx5 (fun hh => hne2 hh.symm)).ext hxs (by omega)) hq6 ho5 hgi hl2 (by show firstN P2 = 0 ↔ _; constructor <;> intro hh <;> omega)
      simp (maxSteps := 1000000) (disch := omega) only [↓sy1, sy2, sy3, readOK, sy5, sy6, Nat.reduceEqDiff, ↓reduceIte, sy7, sy8, sy9, sya, oneOf, syb, syc, Nat.reduceAdd, Nat.reduceMul, syd, sye, syf, syg, syh, reduceCtorEq, hia, st6, e6, e0, e1, e2]
      refine call0 (slot_spec (q := q) (j := 10) (by omega)) ?_
      rintro _ w7 ⟨rfl, hw7⟩
      subst w7
      simp (maxSteps := 1000000) (disch := omega) only [↓sy1, sy2, sy3, readOK, sy5, sy6, Nat.reduceEqDiff, ↓reduceIte, sy7, sy8, sy9, sya, oneOf, syb, syc, Nat.reduceAdd, Nat.reduceMul, syd, sye, syf, syg, syh, reduceCtorEq, e6, e0, e1, e2]
      refine callF hst ?_ ?_
      · intro w' hw'
        exact ⟨rfl, hw'⟩
      rintro _ _ ⟨G7, w7, c7, P7, o7, n, rfl, rfl, w8, st8, hx8, h8, hs8, hq8, ho8, hg8, hl8, hi8⟩
      simp (maxSteps := 1000000) (disch := omega) only [↓sy1, sy2, sy3, readOK, sy5, sy6, Nat.reduceEqDiff, ↓reduceIte, sy7, sy8, sy9, sya, oneOf, syb, syc, Nat.reduceAdd, Nat.reduceMul, syd, sye, syf, syg, syh, reduceCtorEq, e6, e0, e1, e2, st8]
      exact R_out ⟨⟨11, G7, c7, P7, o7, by omega, rfl, hx8, h8, hs8, hq8, ho8, hg8, hl8, hi8⟩, by simp only [intOf]; omega⟩
    · have hst := step G2 w2 c2 P2 o2 hx2 h2 hs2 hq2 ho2 hg2 hl2 (by rw [hi2]; omega)
      simp (maxSteps := 1000000) (disch := omega) only [↓sy1, sy2, sy3, readOK, sy5, sy6, Nat.reduceEqDiff, ↓reduceIte, sy7, sy8, sy9, sya, oneOf, syb, syc, Nat.reduceAdd, Nat.reduceMul, syd, sye, syf, syg, syh, reduceCtorEq, e6, e0, e1, e2, Int.ofNat_lt, hlt, decide_true, decide_false, show ¬ (((k : Nat) : Int) = 10) from by omega]
      refine call0 (slot_spec (q := q) (j := k) (by omega)) ?_
      rintro _ w7 ⟨rfl, hw7⟩
      subst w7
      simp (maxSteps := 1000000) (disch := omega) only [↓sy1, sy2, sy3, readOK, sy5, sy6, Nat.reduceEqDiff, ↓reduceIte, sy7, sy8, sy9, sya, oneOf, syb, syc, Nat.reduceAdd, Nat.reduceMul, syd, sye, syf, syg, syh, reduceCtorEq, e6, e0, e1, e2]
      refine callF hst ?_ ?_
      · intro w' hw'
        exact ⟨rfl, hw'⟩
      rintro _ _ ⟨G7, w7, c7, P7, o7, n, rfl, rfl, w8, st8, hx8, h8, hs8, hq8, ho8, hg8, hl8, hi8⟩
      simp (maxSteps := 1000000) (disch := omega) only [↓sy1, sy2, sy3, readOK, sy5, sy6, Nat.reduceEqDiff, ↓reduceIte, sy7, sy8, sy9, sya, oneOf, syb, syc, Nat.reduceAdd, Nat.reduceMul, syd, sye, syf, syg, syh, reduceCtorEq, e6, e0, e1, e2, st8]
      exact R_out ⟨⟨k + 1, G7, c7, P7, o7, by omega, rfl, hx8, h8, hs8, hq8, ho8, hg8, hl8, hi8⟩, by simp only [intOf]; omega⟩
  have hke : k = pagesN size := by omega
  subst hke
  have hc3' := hq2.cell (j := 3) (by omega)
  rw [show o2.cell 3 = o2.size from rfl, hg2.like.size] at hc3'
  simp (maxSteps := 1000000) (disch := omega) only [↓sy1, sy2, sy3, readOK, sy5, sy6, Nat.reduceEqDiff, ↓reduceIte, sy7, sy8, sy9, sya, oneOf, syb, syc, Nat.reduceAdd, Nat.reduceMul, syd, sye, syf, syg, syh, reduceCtorEq, e6, e0, e1, e2, Int.ofNat_lt, hlt, decide_false, hc3']
  refine call0 (ipages_spec (n := o.size) (by omega)) ?_
  rintro _ w4 ⟨rfl, hw4⟩
  subst w4
  simp (maxSteps := 1000000) (disch := omega) only [↓sy1, sy2, sy3, readOK, sy5, sy6, Nat.reduceEqDiff, ↓reduceIte, sy7, sy8, sy9, sya, oneOf, syb, syc, Nat.reduceAdd, Nat.reduceMul, syd, sye, syf, syg, syh, reduceCtorEq]
  refine loop_rule (fun e' w' => e' 7 = .int .i64 ((pagesN o.size : Nat) - 1) ∧ e' 0 = .pointer (some ⟨s, 0, none⟩) ∧ e' 1 = .pointer (some ⟨q, 0, none⟩) ∧ e' 2 = .int .i64 size ∧ w' = w2) (fun _ _ => 0)
    ⟨by simp [upd, updO, ev], by simp [upd, updO, ev, e0], by simp [upd, updO, ev, e1], by simp [upd, updO, ev, e2], rfl⟩ ?_
  rintro e' w4 ⟨e7', e0', e1', e2', hw4⟩
  subst w4
  simp (maxSteps := 1000000) (disch := omega) only [↓sy1, sy2, sy3, readOK, sy5, sy6, Nat.reduceEqDiff, ↓reduceIte, sy7, sy8, sy9, sya, oneOf, syb, syc, Nat.reduceAdd, Nat.reduceMul, syd, sye, syf, syg, syh, reduceCtorEq, F37_L1, e7', e0', e1', e2']
  refine call0 (ipages_spec (n := size) (by omega)) ?_
  rintro _ w4 ⟨rfl, hw4⟩
  subst w4
  obtain ⟨w6, st6, hq6, hk6⟩ := OpnAt.store hq2 (j := 3) (by omega) (u := .int .i64 (size : Nat)) rfl (Opn.cells_size _ _)
  have hxs : Ext (fun x => x = 6) G2 w2 G2 w6 := .on0 hk6 ho2.1 ho2.2
  simp (maxSteps := 1000000) (disch := omega) only [↓sy1, sy2, sy3, readOK, sy5, sy6, Nat.reduceEqDiff, ↓reduceIte, sy7, sy8, sy9, sya, oneOf, syb, syc, Nat.reduceAdd, Nat.reduceMul, syd, sye, syf, syg, syh, reduceCtorEq, e7', e0', e1', e2', show ¬ (((pagesN size : Nat) : Int) ≤ ((pagesN o.size : Nat) : Int) - 1) from by omega, decide_false, hc3', Int.ofNat_lt, show ¬ (size < o.size) from by omega, st6]
  exact R_out ⟨G2, c2, P2, _, hx2.trans (hxs.mono hx6'), h2.ext hxs h6.1 h6.2 (by omega), hq6, ho2, hg2.done hok hb hgr hsz hl2 hi2⟩
end
end Go.Proofs.YtienelpepioggaaGreat

/- resize: a file is cut. -/
namespace Go.Proofs.YtienelpepioggaaGreat
open Go
set_option linter.unusedSimpArgs false
open Go.RowKit (intOf)
theorem flat_part {d : List Nat} {f : Nat → List UInt8} {k : Nat} {n : Nat} (h : ∀ x ∈ d, (f x).length = 512) (hk : d[k]? = some n) : ((d.flatMap f).drop (512 * k)).take 512 = f n := by
  induction d generalizing k with
  | nil => simp at hk
  | cons a d ih =>
    have ha := h a (by simp)
    cases k with
    | zero =>
      simp at hk; subst hk
      rw [List.flatMap_cons, Nat.mul_zero, List.drop_zero, List.take_append_of_le_length (by omega), List.take_of_length_le (by omega)]
    | succ k =>
      simp at hk
      rw [List.flatMap_cons, List.drop_append, ha, List.drop_eq_nil_of_le (by omega), List.nil_append, show 512 * (k + 1) - 512 = 512 * k from by omega]
      exact ih (fun x hx => h x (by simp [hx])) hk
/-- A part of a page is written. -/
theorem patch_page {l y : List UInt8} {k o : Nat} (h : 512 * (k + 1) ≤ l.length) (ho : o + y.length ≤ 512) : patch l (512 * k) (patch ((l.drop (512 * k)).take 512) o y) = patch l (512 * k + o) y := by
  have hl : ((l.drop (512 * k)).take 512).length = 512 := by simp; omega
  have h1 : patch l (512 * k) ((l.drop (512 * k)).take 512) = l := by
    unfold patch
    rw [hl, List.append_assoc, ← List.drop_drop, List.take_append_drop, List.take_append_drop]
  conv => rhs; rw [← h1]
  rw [patch_patch (by rw [hl]; omega) (by rw [hl]; exact ho)]
theorem patch_tail {l : List UInt8} {a n : Nat} (h : a + n = l.length) : patch l a (List.replicate n 0) = l.take a ++ List.replicate n 0 := by
  unfold patch
  rw [List.drop_eq_nil_of_le (by simp; omega), List.append_nil]
theorem slot_page {o : Opn} {k : Nat} (h : k < o.data.length) : o.data[k]? = some (o.cell (slotJ k)) ∧ o.cell (slotJ k) ∈ o.own := by
  rw [o.cell_slot, List.getD_eq_getElem?_getD, List.getElem?_eq_getElem h]
  exact ⟨rfl, by simp [Opn.own]⟩
section
variable {G : Gh} {κ μ m p lq came s q i : Nat} {w : World} {c : Csh} {P I : List Bool} {F : Nat → Option Opn} {B : Nat → List UInt8} {o : Opn} {b : List UInt8} {size : Nat}
set_option maxRecDepth 20000 in
set_option maxHeartbeats 4000000 in
theorem resize_cut (h : MapAt G κ μ w m p lq came c P I) (hs : StoreAt G w s m) (hq : OpnAt w q o) (ho : G.own q = 6 ∧ G.fix q = 0) (hm : FMid c P I F B i o) (hok : o.Ok) (hb : Holds c o b) (hgr : size < o.size) :
    Calls Tryz.prog 37 #[.pointer (some ⟨s, 0, none⟩), .pointer (some ⟨q, 0, none⟩), .int .i64 size] w (RetF (fun _ w' => RszR G κ μ w m p lq came c P I F B i q o b size w')
      (fun w' => Stop (fun x => x = μ ∨ x = 6) G κ μ w m p lq came I.length c (freeN P + needN o.size) (needN size) 2 w')) := by
  obtain ⟨hne1, hne2, hne3⟩ := h.1.cache.ne
  have h6 := h.1.ne
  have hos := hok.size
  have hod := hok.data
  have hoi := hok.ind
  have hp1 : pagesN o.size ≤ 138 := pagesN_le hos
  have hpm : pagesN size ≤ pagesN o.size := by unfold pagesN; omega
  have hx6 : ∀ x, x = μ → x = μ ∨ x = 6 := fun x hh => .inl hh
  have hx6' : ∀ x, x = 6 → x = μ ∨ x = 6 := fun x hh => .inr hh
  have hnm : 6 ≠ μ := fun hh => h6.2 hh.symm
  apply enter37
  apply R_in
  have hc3 := hq.cell (j := 3) (by omega)
  rw [show o.cell 3 = o.size from rfl] at hc3
  simp (maxSteps := 1000000) (disch := omega) only [↓sy1, sy2, sy3, readOK, sy5, sy6, Nat.reduceEqDiff, ↓reduceIte, sy7, sy8, sy9, sya, oneOf, syb, syc, Nat.reduceAdd, Nat.reduceMul, syd, sye, syf, syg, syh, reduceCtorEq, F37, hc3]
  refine call0 (ipages_spec (n := o.size) (by omega)) ?_
  rintro _ w1 ⟨rfl, hw1⟩
  subst w1
  simp (maxSteps := 1000000) (disch := omega) only [↓sy1, sy2, sy3, readOK, sy5, sy6, Nat.reduceEqDiff, ↓reduceIte, sy7, sy8, sy9, sya, oneOf, syb, syc, Nat.reduceAdd, Nat.reduceMul, syd, sye, syf, syg, syh, reduceCtorEq]
  refine loop_rule (fun e' w' => e' 6 = .int .i64 (pagesN o.size : Nat) ∧ e' 0 = .pointer (some ⟨s, 0, none⟩) ∧ e' 1 = .pointer (some ⟨q, 0, none⟩) ∧ e' 2 = .int .i64 size ∧ w' = w) (fun _ _ => 0)
    ⟨by simp [upd, updO, ev], by simp [upd, updO, ev], by simp [upd, updO, ev], by simp [upd, updO, ev], rfl⟩ ?_
  rintro e w1 ⟨e6, e0, e1, e2, hw1⟩
  subst w1
  simp (maxSteps := 1000000) (disch := omega) only [↓sy1, sy2, sy3, readOK, sy5, sy6, Nat.reduceEqDiff, ↓reduceIte, sy7, sy8, sy9, sya, oneOf, syb, syc, Nat.reduceAdd, Nat.reduceMul, syd, sye, syf, syg, syh, reduceCtorEq, F37_L0, e6, e0, e1, e2]
  refine call0 (ipages_spec (n := size) (by omega)) ?_
  rintro _ w1 ⟨rfl, hw1⟩
  subst w1
  simp (maxSteps := 1000000) (disch := omega) only [↓sy1, sy2, sy3, readOK, sy5, sy6, Nat.reduceEqDiff, ↓reduceIte, sy7, sy8, sy9, sya, oneOf, syb, syc, Nat.reduceAdd, Nat.reduceMul, syd, sye, syf, syg, syh, reduceCtorEq, e6, e0, e1, e2, Int.ofNat_lt, show ¬ (pagesN o.size < pagesN size) from by omega, decide_false, hc3]
  refine call0 (ipages_spec (n := o.size) (by omega)) ?_
  rintro _ w1 ⟨rfl, hw1⟩
  subst w1
  simp (maxSteps := 1000000) (disch := omega) only [↓sy1, sy2, sy3, readOK, sy5, sy6, Nat.reduceEqDiff, ↓reduceIte, sy7, sy8, sy9, sya, oneOf, syb, syc, Nat.reduceAdd, Nat.reduceMul, syd, sye, syf, syg, syh, reduceCtorEq]
  refine loop_rule (fun e w' => ∃ (k : Nat) (G' : Gh) (c' : Csh) (P' : List Bool) (o' : Opn), pagesN size ≤ k ∧ e 7 = .int .i64 ((k : Int) - 1) ∧ e 0 = .pointer (some ⟨s, 0, none⟩) ∧ e 1 = .pointer (some ⟨q, 0, none⟩) ∧ e 2 = .int .i64 size ∧
      Ext (fun x => x = μ ∨ x = 6) G w G' w' ∧ MapAt G' κ μ w' m p lq came c' P' I ∧ StoreAt G' w' s m ∧ OpnAt w' q o' ∧ (G'.own q = 6 ∧ G'.fix q = 0) ∧ Shr c P o I F B i c' P' o' ∧ o'.data.length = k ∧ (o'.ind = 0 ↔ k ≤ 10)) (fun e _ => (intOf (e 7) + 1).toNat)
    ⟨pagesN o.size, G, c, P, o, hpm, by simp [upd, updO, ev], by simp [upd, updO, ev, e0], by simp [upd, updO, ev, e1], by simp [upd, updO, ev, e2], .refl _ _ _, h, hs, hq, ho,
      .refl hm (fun n hn => h.1.cache.oks.plen (hm.pg (by simp [Opn.own, hn])).2.2.1), hod, by rw [← hod]; exact hoi⟩ ?_
  clear e6 e0 e1 e2
  rintro e w2 ⟨k, G2, c2, P2, o2, hk, e7, e0, e1, e2, hx2, h2, hs2, hq2, ho2, hg2, hl2, hi2⟩
  have hle2 := hg2.le
  have hpl2 : ∀ n ∈ o2.own, (c2.page n).length = 512 := fun n hn => h2.1.cache.oks.plen (hg2.mid.pg hn).2.2.1
  simp (maxSteps := 1000000) (disch := omega) only [↓sy1, sy2, sy3, readOK, sy5, sy6, Nat.reduceEqDiff, ↓reduceIte, sy7, sy8, sy9, sya, oneOf, syb, syc, Nat.reduceAdd, Nat.reduceMul, syd, sye, syf, syg, syh, reduceCtorEq, F37_L1, e7, e0, e1, e2]
  refine call0 (ipages_spec (n := size) (by omega)) ?_
  rintro _ w3 ⟨rfl, hw3⟩
  subst w3
  have nogive : ∀ {G' : Gh} {c' : Csh} {w' : World} {P' : List Bool} {o' : Opn}, Ext (fun x => x = μ ∨ x = 6) G w G' w' → MapC G' κ μ w' m p lq came c' I.length → Shr c P o I F B i c' P' o' → c'.fits [2] = false → Stop (fun x => x = μ ∨ x = 6) G κ μ w m p lq came I.length c (freeN P + needN o.size) (needN size) 2 w' :=
    fun hx hm hg hf => ⟨_, _, _, hx, hm, hg.dty, .inr ⟨(hg.stop hf).1, by have := (hg.stop hf).2; omega⟩⟩
  by_cases hlt : pagesN size < k
  · have hj : ((k : Int) - 1) = ((k - 1 : Nat) : Int) := by omega
    have hsp := slot_page (o := o2) (k := k - 1) (by omega)
    have hcell := hq2.cell (j := slotJ (k - 1)) (slotJ_lt (by omega))
    obtain ⟨g1, g2, g3, g4⟩ := hg2.mid.pg hsp.2
    have hng : o2.data.getD (o2.data.length - 1) 0 = o2.cell (slotJ (k - 1)) := by rw [o2.cell_slot, hl2]
    rw [hj] at e7
    rw [hj]
    simp (maxSteps := 1000000) (disch := omega) only [↓sy1, sy2, sy3, readOK, sy5, sy6, Nat.reduceEqDiff, ↓reduceIte, sy7, sy8, sy9, sya, oneOf, syb, syc, Nat.reduceAdd, Nat.reduceMul, syd, sye, syf, syg, syh, reduceCtorEq, e7, e0, e1, e2, show (((pagesN size : Nat) : Int) ≤ ((k - 1 : Nat) : Int)) from by omega, decide_true]
    refine call0 (slot_spec (q := q) (j := k - 1) (by omega)) ?_
    rintro _ w3 ⟨rfl, hw3⟩
    subst w3
    simp (maxSteps := 1000000) (disch := omega) only [↓sy1, sy2, sy3, readOK, sy5, sy6, Nat.reduceEqDiff, ↓reduceIte, sy7, sy8, sy9, sya, oneOf, syb, syc, Nat.reduceAdd, Nat.reduceMul, syd, sye, syf, syg, syh, reduceCtorEq, hcell, e7, e0, e1, e2]
    refine callF (igive_spec h2 hs2 g1 g2) ?_ ?_
    · rintro w3 ⟨hf, G3, hx3, h3⟩
      exact ⟨rfl, nogive (hx2.trans (hx3.mono hx6)) h3.1 hg2 hf⟩
    rintro _ w3 ⟨G3, hx3, h3⟩
    have hq3 : OpnAt w3 q o2 := hx3.heap hq2 (by rw [ho2.1]; exact hnm)
    have ho3 : G3.own q = 6 ∧ G3.fix q = 0 := by rw [hx3.own _ hq2.lt, hx3.fixe _ hq2.lt (by rw [ho2.1]; exact hnm)]; exact ho2
    have hs3 := hs2.ext hx3 (fun hh => hne2 hh.symm)
    have hne : o2.data ≠ [] := by intro hh; rw [hh] at hl2; simp at hl2; omega
    have hg3 := hg2.data h2.facts.2.2.2.2.2.2.2 hne (fun n hn => hpl2 n (by simp [Opn.own, hn]))
    rw [hng] at hg3
    have hset := Opn.cells_pop o2 hne (by omega)
    rw [hl2] at hset
    obtain ⟨w4, st4, hq4, hk4⟩ := OpnAt.store hq3 (j := slotJ (k - 1)) (slotJ_lt (by omega)) (u := .int .i64 (0 : Nat)) rfl hset
    have hxs : Ext (fun x => x = 6) G3 w3 G3 w4 := .on0 hk4 ho3.1 ho3.2
    have hx4 := (hx2.trans (hx3.mono hx6)).trans (hxs.mono hx6')
    have h4 := h3.ext hxs h6.1 h6.2 (by omega)
    have hs4 := hs3.ext hxs (by omega)
    rw [show ((0 : Nat) : Int) = 0 from rfl] at st4
    have hl4 : ({ o2 with data := o2.data.dropLast } : Opn).data.length = k - 1 := by simp [hl2]
    simp (maxSteps := 1000000) (disch := omega) only [↓sy1, sy2, sy3, readOK, sy5, sy6, Nat.reduceEqDiff, ↓reduceIte, sy7, sy8, sy9, sya, oneOf, syb, syc, Nat.reduceAdd, Nat.reduceMul, syd, sye, syf, syg, syh, reduceCtorEq, e7, e0, e1, e2]
    refine call0 (slot_spec (q := q) (j := k - 1) (by omega)) ?_
    rintro _ w5 ⟨rfl, hw5⟩
    subst w5
    by_cases h11 : k = 11
    · have hind : o2.ind ≠ 0 := fun hh => by have := hi2.1 hh; omega
      have hc14 := hq4.cell (j := 14) (by omega)
      rw [show ({ o2 with data := o2.data.dropLast } : Opn).cell 14 = o2.ind from rfl] at hc14
      have hia : iaaF 11 1 (.pointer (some ⟨q, 4, none⟩)) (.int .i64 10) = some (.pointer (some ⟨q, 14, none⟩)) := rfl
      obtain ⟨i1, i2, i3, i4⟩ := hg3.mid.pg (n := o2.ind) (by simp [Opn.own, hind])
      simp (maxSteps := 1000000) (disch := omega) only [↓sy1, sy2, sy3, readOK, sy5, sy6, Nat.reduceEqDiff, ↓reduceIte, sy7, sy8, sy9, sya, oneOf, syb, syc, Nat.reduceAdd, Nat.reduceMul, syd, sye, syf, syg, syh, reduceCtorEq, e7, e0, e1, e2, st4, show ((k - 1 : Nat) : Int) = 10 from by omega, decide_true, hia, hc14]
      refine callF (igive_spec h4 hs4 i1 i2) ?_ ?_
      · rintro w5 ⟨hf, G5, hx5, h5⟩
        exact ⟨rfl, nogive (hx4.trans (hx5.mono hx6)) h5.1 hg3 hf⟩
      rintro _ w5 ⟨G5, hx5, h5⟩
      have hq5 := (show OpnAt w5 q _ from hx5.heap hq4 (by rw [ho3.1]; exact hnm))
      have ho5 : G5.own q = 6 ∧ G5.fix q = 0 := by rw [hx5.own _ hq4.lt, hx5.fixe _ hq4.lt (by rw [ho3.1]; exact hnm)]; exact ho3
      have hg5 := hg3.ind h4.facts.2.2.2.2.2.2.2 hind
      obtain ⟨w6, st6, hq6, hk6⟩ := OpnAt.store hq5 (j := 14) (by omega) (u := .int .i64 (0 : Nat)) rfl (Opn.cells_ind _ _)
      have hxs6 : Ext (fun x => x = 6) G5 w5 G5 w6 := .on0 hk6 ho5.1 ho5.2
      rw [show ((0 : Nat) : Int) = 0 from rfl] at st6
      simp (maxSteps := 1000000) (disch := omega) only [↓sy1, sy2, sy3, readOK, sy5, sy6, Nat.reduceEqDiff, ↓reduceIte, sy7, sy8, sy9, sya, oneOf, syb, syc, Nat.reduceAdd, Nat.reduceMul, syd, sye, syf, syg, syh, reduceCtorEq, e7, e0, e1, e2, hia, st6, show ((k - 1 : Nat) : Int) = 10 from by omega]
      refine R_out ⟨⟨10, G5, _, _, _, by omega, rfl, (hx4.trans (hx5.mono hx6)).trans (hxs6.mono hx6'), h5.ext hxs6 h6.1 h6.2 (by omega), (hs4.ext hx5 (fun hh => hne2 hh.symm)).ext hxs6 (by omega), hq6, ho5, hg5, by simp [hl2, h11], by simp⟩, by simp only [intOf]; omega⟩
    · simp (maxSteps := 1000000) (disch := omega) only [↓sy1, sy2, sy3, readOK, sy5, sy6, Nat.reduceEqDiff, ↓reduceIte, sy7, sy8, sy9, sya, oneOf, syb, syc, Nat.reduceAdd, Nat.reduceMul, syd, sye, syf, syg, syh, reduceCtorEq, e7, e0, e1, e2, st4, show ¬ (((k - 1 : Nat) : Int) = 10) from by omega, decide_false]
      refine R_out ⟨⟨k - 1, G3, _, _, _, by omega, rfl, hx4, h4, hs4, hq4, ho3, hg3, hl4, ?_⟩, by simp only [intOf]; omega⟩
      show o2.ind = 0 ↔ _
      rw [hi2]; omega
  have hke : k = pagesN size := by omega
  subst hke
  have hc3' := hq2.cell (j := 3) (by omega)
  rw [show o2.cell 3 = o2.size from rfl, hg2.like.size] at hc3'
  have hrem : ((size : Nat) : Int).tmod 512 = ((size % 512 : Nat) : Int) := rfl
  have hfl2 := hg2.flat
  have hbl := hb.len
  rw [hb.flat, hl2, hod, ← hbl] at hfl2
  by_cases hr : size % 512 = 0
  · obtain ⟨w6, st6, hq6, hk6⟩ := OpnAt.store hq2 (j := 3) (by omega) (u := .int .i64 (size : Nat)) rfl (Opn.cells_size _ _)
    have hxs : Ext (fun x => x = 6) G2 w2 G2 w6 := .on0 hk6 ho2.1 ho2.2
    simp (maxSteps := 1000000) (disch := omega) only [↓sy1, sy2, sy3, readOK, sy5, sy6, Nat.reduceEqDiff, ↓reduceIte, sy7, sy8, sy9, sya, oneOf, syb, syc, Nat.reduceAdd, Nat.reduceMul, syd, sye, syf, syg, syh, reduceCtorEq, e7, e0, e1, e2, show ¬ (((pagesN size : Nat) : Int) ≤ ((pagesN size : Nat) : Int) - 1) from by omega, decide_false, hrem, hc3', Int.ofNat_lt, hgr, decide_true, hr, show ¬ ((0 : Int) < ((0 : Nat) : Int)) from by omega, st6]
    refine R_out ⟨G2, c2, P2, _, hx2.trans (hxs.mono hx6'), h2.ext hxs h6.1 h6.2 (by omega), hq6, ho2, hg2.done hok (by omega) hl2 hi2 hg2.mid (hg2.dty.mono (by simp)) ?_⟩
    rw [hfl2]
    exact rszB_cut (by omega) (by unfold pagesN; omega) (by unfold pagesN; omega)
  have hpk : pagesN size = size / 512 + 1 := by unfold pagesN; omega
  have hsp := slot_page (o := o2) (k := size / 512) (by omega)
  have hcell := hq2.cell (j := slotJ (size / 512)) (slotJ_lt (by omega))
  generalize hn : o2.cell (slotJ (size / 512)) = n at hsp hcell
  obtain ⟨g1, g2, g3, g4⟩ := hg2.mid.pg hsp.2
  simp (maxSteps := 1000000) (disch := omega) only [↓sy1, sy2, sy3, readOK, sy5, sy6, Nat.reduceEqDiff, ↓reduceIte, sy7, sy8, sy9, sya, oneOf, syb, syc, Nat.reduceAdd, Nat.reduceMul, syd, sye, syf, syg, syh, reduceCtorEq, e7, e0, e1, e2, show ¬ (((pagesN size : Nat) : Int) ≤ ((pagesN size : Nat) : Int) - 1) from by omega, decide_false, hrem, hc3', Int.ofNat_lt, hgr, decide_true, show (0 : Int) < ((size % 512 : Nat) : Int) from by omega]
  refine call0 (ipages_spec (n := size) (by omega)) ?_
  rintro _ w3 ⟨rfl, hw3⟩
  subst w3
  simp (maxSteps := 1000000) (disch := omega) only [↓sy1, sy2, sy3, readOK, sy5, sy6, Nat.reduceEqDiff, ↓reduceIte, sy7, sy8, sy9, sya, oneOf, syb, syc, Nat.reduceAdd, Nat.reduceMul, syd, sye, syf, syg, syh, reduceCtorEq, show ((pagesN size : Nat) : Int) - 1 = ((size / 512 : Nat) : Int) from by omega]
  refine call0 (slot_spec (q := q) (j := size / 512) (by omega)) ?_
  rintro _ w3 ⟨rfl, hw3⟩
  subst w3
  simp (maxSteps := 1000000) (disch := omega) only [↓sy1, sy2, sy3, readOK, sy5, sy6, Nat.reduceEqDiff, ↓reduceIte, sy7, sy8, sy9, sya, oneOf, syb, syc, Nat.reduceAdd, Nat.reduceMul, syd, sye, syf, syg, syh, reduceCtorEq, hcell, hs2.cell, e0, e1, e2]
  refine call0 (mcache_spec h2.1) ?_
  rintro _ w3 ⟨rfl, hw3⟩
  subst w3
  simp (maxSteps := 1000000) (disch := omega) only [↓sy1, sy2, sy3, readOK, sy5, sy6, Nat.reduceEqDiff, ↓reduceIte, sy7, sy8, sy9, sya, oneOf, syb, syc, Nat.reduceAdd, Nat.reduceMul, syd, sye, syf, syg, syh, reduceCtorEq]
  refine call0 (pread_spec h2.1 (n := n) g3) ?_
  rintro _ w3 ⟨g, cap, G3, rfl, hcap, hgw, hrow, hog, h3, hx3⟩
  have hq3 : OpnAt w3 q o2 := hx3.heap hq2 (by rw [ho2.1]; exact hnm)
  have ho3 : G3.own q = 6 ∧ G3.fix q = 0 := by rw [hx3.own _ hq2.lt, hx3.fixe _ hq2.lt (by rw [ho2.1]; exact hnm)]; exact ho2
  have hs3 := hs2.ext hx3 (fun hh => hne2 hh.symm)
  have hpl := hpl2 n hsp.2
  simp (maxSteps := 1000000) (disch := omega) only [↓sy1, sy2, sy3, readOK, sy5, sy6, Nat.reduceEqDiff, ↓reduceIte, sy7, sy8, sy9, sya, oneOf, syb, syc, Nat.reduceAdd, Nat.reduceMul, syd, sye, syf, syg, syh, reduceCtorEq, slcV_from (g := g) (o := 0) (len := 512) (cap := cap) (kx := .i64) (lo := ((size % 512 : Nat) : Int)) (a := size % 512) rfl (by omega) hcap, Nat.zero_add]
  refine clearB_rule (by simp only [upd_at, Nat.reduceEqDiff, reduceIte, ev_tmp, ev_const, List.map_cons, List.map_nil]; rfl) hrow (by omega) (by omega) ?_
  intro w4 hk4 hrow4
  have hxs4 : Ext (fun x => x = 6) G3 w3 G3 w4 := .on0 hk4 hog.1 hog.2
  have hgq : q ≠ g := by have := hq2.lt; omega
  have hq4 := hq3.keep hk4 hgq
  have h4 : MapC G3 κ μ w4 m p lq came c2 I.length := h3.ext hxs4 h6.1 h6.2 (by omega)
  have hs4 := hs3.ext hxs4 (by omega)
  have hx4 := (hx2.trans (hx3.mono hx6)).trans (hxs4.mono hx6')
  have hpt := patch_tail (l := c2.page n) (a := size % 512) (n := 512 - size % 512) (by omega)
  have hptl := patch_length (l := c2.page n) (o := size % 512) (b := List.replicate (512 - size % 512) 0) (by simp; omega)
  rw [hpl] at hptl
  have hbr : HasB w4 (.slice (some ⟨g, 0, none⟩) 512 cap) (patch (c2.page n) (size % 512) (List.replicate (512 - size % 512) 0)) := by
    have := hrow4.part (o := 0) (m := 512) (c := cap) (by omega) hcap
    rw [List.drop_zero, List.take_of_length_le (by omega)] at this
    exact this
  simp (maxSteps := 1000000) (disch := omega) only [↓sy1, sy2, sy3, readOK, sy5, sy6, Nat.reduceEqDiff, ↓reduceIte, sy7, sy8, sy9, sya, oneOf, syb, syc, Nat.reduceAdd, Nat.reduceMul, syd, sye, syf, syg, syh, reduceCtorEq, e0, e1, e2]
  refine callF (iwrite_spec h4 hs4 hbr hptl) ?_ ?_
  · rintro w5 ⟨hw, G5, hx5, h5⟩
    have hd : Dty [2, n] c c2 := hg2.dty.mono (by simp)
    refine ⟨rfl, G5, c2, _, hx4.trans (hx5.mono hx6), h5, hd, .inr ⟨hd.fullN (n := n) g3 hw, ?_⟩⟩
    exact hd.full (n := n) (by simp) g3 hw
  rintro _ w5 ⟨hw, G5, hx5, h5⟩
  have hq5 : OpnAt w5 q o2 := hx5.heap hq4 (by rw [ho3.1]; exact hnm)
  have ho5 : G5.own q = 6 ∧ G5.fix q = 0 := by rw [hx5.own _ hq4.lt, hx5.fixe _ hq4.lt (by rw [ho3.1]; exact hnm)]; exact ho3
  obtain ⟨w6, st6, hq6, hk6⟩ := OpnAt.store hq5 (j := 3) (by omega) (u := .int .i64 (size : Nat)) rfl (Opn.cells_size _ _)
  have hxs : Ext (fun x => x = 6) G5 w5 G5 w6 := .on0 hk6 ho5.1 ho5.2
  have hmid := hg2.mid.write (b := patch (c2.page n) (size % 512) (List.replicate (512 - size % 512) 0)) hsp.2
  simp (maxSteps := 1000000) (disch := omega) only [↓sy1, sy2, sy3, readOK, sy5, sy6, Nat.reduceEqDiff, ↓reduceIte, sy7, sy8, sy9, sya, oneOf, syb, syc, Nat.reduceAdd, Nat.reduceMul, syd, sye, syf, syg, syh, reduceCtorEq, e0, e1, e2, st6]
  refine R_out ⟨G5, _, P2, _, (hx4.trans (hx5.mono hx6)).trans (hxs.mono hx6'), (show MapAt _ _ _ _ _ _ _ _ _ _ _ from ⟨h5, hmid.alc⟩).ext hxs h6.1 h6.2 (by omega), hq6, ho5, hg2.done hok (by omega) hl2 hi2 hmid ?_ ?_⟩
  · exact (hg2.dty.mono (by simp)).trans (.write (by simp [hsp.2]))
  · have hnd := hg2.mid.own.nodup i o2 upF_same
    have hndd : o2.data.Nodup := by rw [Opn.own, List.nodup_append] at hnd; exact hnd.1
    have hpd : ∀ x ∈ o2.data, (c2.page x).length = 512 := fun x hx => hpl2 x (by simp [Opn.own, hx])
    have hw := flat_write (f := c2.page) hpd hptl hndd hsp.1
    have hpw : (c2.write n (patch (c2.page n) (size % 512) (List.replicate (512 - size % 512) 0))).page = fun x => if x = n then patch (c2.page n) (size % 512) (List.replicate (512 - size % 512) 0) else c2.page x := by
      funext x; rw [Csh.write_page]
    have hlen := flat_length hpd
    have hfp := flat_part hpd hsp.1
    rw [hpw, hw, ← hfp, patch_page (by rw [hlen, hl2]; omega) (by simp; omega), hfl2]
    rw [hpk]
    exact rszB_clear (by omega) (by unfold pagesN; omega) (by omega) (by omega) (by unfold pagesN; omega)
/-- A file is given a size. -/
theorem resize_spec (h : MapAt G κ μ w m p lq came c P I) (hs : StoreAt G w s m) (hq : OpnAt w q o) (ho : G.own q = 6 ∧ G.fix q = 0) (hm : FMid c P I F B i o) (hok : o.Ok) (hb : Holds c o b) (hsz : size ≤ 70656) :
    Calls Tryz.prog 37 #[.pointer (some ⟨s, 0, none⟩), .pointer (some ⟨q, 0, none⟩), .int .i64 size] w (RetF (fun _ w' => RszR G κ μ w m p lq came c P I F B i q o b size w')
      (fun w' => Stop (fun x => x = μ ∨ x = 6) G κ μ w m p lq came I.length c (freeN P + needN o.size) (needN size) (2 + needN size) w')) := by
  have mono : ∀ {x y : Nat} {w'}, x ≤ y → Stop (fun x => x = μ ∨ x = 6) G κ μ w m p lq came I.length c (freeN P + needN o.size) (needN size) x w' → Stop (fun x => x = μ ∨ x = 6) G κ μ w m p lq came I.length c (freeN P + needN o.size) (needN size) y w' :=
    fun hxy ⟨G', c', L, h1, h2, h3, h4⟩ => ⟨G', c', L, h1, h2, h3, h4.mono (Nat.le_refl _) hxy⟩
  by_cases hgr : o.size ≤ size
  · exact RetF.mono (resize_grow h hs hq ho hm hok hb hsz hgr) (fun _ _ hh => hh) (fun _ hh => mono (by omega) hh)
  · exact RetF.mono (resize_cut h hs hq ho hm hok hb (by omega)) (fun _ _ hh => hh) (fun _ hh => mono (by omega) hh)
end
end Go.Proofs.YtienelpepioggaaGreat

/- Files: an inode is born, or goes; what was committed. -/
namespace Go.Proofs.YtienelpepioggaaGreat
open Go
set_option linter.unusedSimpArgs false
section
variable {c c' : Csh} {P I : List Bool} {F : Nat → Option Opn} {B : Nat → List UInt8} {i n : Nat} {o o' : Opn}
theorem FsOk.congr (h : FsOk c P I F B) (hN : c'.N = c.N) (hp : ∀ n, n < c.N → c'.page n = c.page n) : FsOk c' P I F B := by
  have hm := h.alc.may
  unfold mayA at hm
  refine ⟨h.alc.congr hN fun n hn => hp n (by omega), h.own, h.ok, fun j oj hj => (h.recs j oj hj).keep ?_ fun x hx => hp x (h.lt hj hx).2.1⟩
  have := h.i_lt hj
  rw [hp _ (by omega)]
/-- What was committed last. -/
def IOld (c : Csh) (k : Nat) : Prop := ∃ P I F B, FsOk c.abort P I F B ∧ I.length = k
/-- Of one disk. -/
def Near (c c' : Csh) : Prop := c'.N = c.N ∧ c'.D = c.D ∧ c'.size = c.size
theorem Near.refl (c : Csh) : Near c c := ⟨rfl, rfl, rfl⟩
theorem Near.trans {a b c : Csh} (h : Near a b) (h' : Near b c) : Near a c := ⟨h'.1.trans h.1, h'.2.1.trans h.2.1, h'.2.2.trans h.2.2⟩
theorem Dty.near {L : List Nat} (h : Dty L c c') : Near c c' := ⟨h.N, h.D, h.size⟩
theorem Near.abort (c : Csh) : Near c c.abort := ⟨rfl, rfl, rfl⟩
theorem Near.cap (h : Near c c') : c'.cap = c.cap := by simp only [Csh.cap, h.2.2]
theorem Near.apage (h : Near c c') (n : Nat) : c'.abort.page n = c.abort.page n := by simp only [Csh.page, Csh.abort, h.2.1, h.2.2]
theorem IOld.near {k : Nat} (h : IOld c k) (hn : Near c c') : IOld c' k := by
  obtain ⟨P, I, F, B, h1, h2⟩ := h
  exact ⟨P, I, F, B, h1.congr hn.1 fun n _ => hn.apage n, h2⟩
theorem IOld.abort {k : Nat} (h : IOld c k) : ∃ P I F B, FsOk c.abort P I F B ∧ I.length = k ∧ IOld c.abort k := by
  obtain ⟨P, I, F, B, h1, h2⟩ := h
  exact ⟨P, I, F, B, h1, h2, P, I, F, B, h1, h2⟩
/-- All is committed. -/
theorem FsOk.commit (h : FsOk c P I F B) (hc : c.OkS) : FsOk c.commit P I F B ∧ IOld c.commit I.length := by
  have h1 := h.congr (Csh.commit_N c) fun n hn => hc.cpage hn
  exact ⟨h1, P, I, F, B, h1, rfl⟩
theorem upB_self : upB B i (B i) = B := by
  funext j; unfold upB; split
  · rename_i h; rw [h]
  · rfl
theorem upB_same {b : List UInt8} : upB B i b i = b := by simp [upB]
theorem upB_ne {b : List UInt8} {j : Nat} (h : j ≠ i) : upB B i b j = B j := by simp [upB, h]
theorem turnI_page {x : Nat} (h1 : x ≠ 1) : (c.turnI n).page x = c.page x := by rw [Csh.turnI, Csh.write_page, if_neg h1]
theorem turnI_dty : Dty [1] c (c.turnI n) := .write (by simp)
/-- An inode is taken. -/
theorem FsOk.born (h : FsOk c P I F B) (hl : (c.page 1).length = 512) (hn : firstN I < I.length) (ho : o.own = []) (hi : o.i = firstN I) : FMid (c.turnI (firstN I)) P (I.set (firstN I) true) F B (firstN I) o := by
  have hf := firstN_at hn
  have h1 := h.alc.first1
  have hnone : ∀ oj, F (firstN I) ≠ some oj := fun oj hj => by
    have := (h.own.num _ oj hj).2.2
    rw [hf] at this; cases this
  have key : ∀ {j oj}, upF F (firstN I) (some o) j = some oj → (j = firstN I ∧ oj = o) ∨ (j ≠ firstN I ∧ F j = some oj) := fun {j oj} hj => by
    by_cases hji : j = firstN I
    · subst hji; rw [upF_same] at hj; cases hj; exact .inl ⟨rfl, rfl⟩
    · rw [upF_ne hji] at hj; exact .inr ⟨hji, hj⟩
  refine ⟨h.alc.flipI hl h1 hf, ⟨fun j oj hj => ?_, fun j h2 h3 => ?_, fun j oj x hj hx => ?_, fun j j' oj oj' x hj hj' hx hx' => ?_, fun j oj hj => ?_, fun x hx hPx => ?_⟩, fun j oj _ hj => h.ok j oj hj, fun j oj hji hj => ?_⟩
  · rcases key hj with ⟨rfl, rfl⟩ | ⟨hne, hj⟩
    · exact ⟨hi, h1, by rw [List.getElem?_set_self hn]⟩
    · have := h.own.num j oj hj
      exact ⟨this.1, this.2.1, by rw [List.getElem?_set_ne (Ne.symm hne)]; exact this.2.2⟩
  · by_cases hji : j = firstN I
    · subst hji; exact ⟨o, upF_same⟩
    · rw [List.getElem?_set_ne (Ne.symm hji)] at h3
      obtain ⟨oj, h4⟩ := h.own.used j h2 h3
      exact ⟨oj, by rw [upF_ne hji]; exact h4⟩
  · rcases key hj with ⟨rfl, rfl⟩ | ⟨hne, hj⟩
    · rw [ho] at hx; simp at hx
    · rw [List.length_set]; exact h.own.page j oj x hj hx
  · rcases key hj with ⟨rfl, rfl⟩ | ⟨hne, hj⟩
    · rw [ho] at hx; simp at hx
    · rcases key hj' with ⟨rfl, rfl⟩ | ⟨hne', hj'⟩
      · rw [ho] at hx'; simp at hx'
      · exact h.own.apart j j' oj oj' x hj hj' hx hx'
  · rcases key hj with ⟨rfl, rfl⟩ | ⟨hne, hj⟩
    · rw [ho]; exact List.nodup_nil
    · exact h.own.nodup j oj hj
  · rw [List.length_set] at hx
    obtain ⟨j, oj, h2, h3⟩ := h.own.all x hx hPx
    exact ⟨j, oj, by rw [upF_ne (fun hh => hnone oj (by rw [← hh]; exact h2))]; exact h2, h3⟩
  · have h2 := h.i_lt hj
    refine (h.recs j oj hj).keep (by rw [turnI_page (by omega)]) fun x hx => turnI_page ?_
    have := h.lt hj hx; omega
/-- An inode that has no pages goes. -/
theorem FMid.wipe (h : FMid c P I F B i o) (h0 : o.own = []) (hl : (c.page (3 + i / 8)).length = 512) (hl1 : (c.page 1).length = 512) : FsOk ((c.save { Opn.zero with i := i }).turnI i) P (I.set i false) (upF F i none) B := by
  obtain ⟨n1, n2, n3, n4, n5, n6, n7, n8⟩ := h.num
  have hI := (h.own.num i o upF_same).2.2
  have hsave : c.save { Opn.zero with i := i } = c.save1 { Opn.zero with i := i } := rfl
  have hrl := ({ Opn.zero with i := i } : Opn).recB_length
  have hsp : ∀ x, (c.save1 { Opn.zero with i := i }).page x = if x = 3 + i / 8 then patch (c.page (3 + i / 8)) (64 * (i % 8)) ({ Opn.zero with i := i } : Opn).recB else c.page x := fun x => by rw [Csh.save1, Csh.write_page]
  have key : ∀ {j oj}, upF F i none j = some oj → j ≠ i ∧ F j = some oj ∧ upF F i (some o) j = some oj := fun {j oj} hj => by
    by_cases hji : j = i
    · subst hji; rw [upF_same] at hj; cases hj
    · rw [upF_ne hji] at hj; exact ⟨hji, hj, by rw [upF_ne hji]; exact hj⟩
  rw [hsave]
  have ha : Alc (c.save1 { Opn.zero with i := i }) P I := h.alc.write (by omega)
  refine ⟨ha.flipI (by rw [hsp, if_neg (by omega)]; exact hl1) n2 hI, ⟨fun j oj hj => ?_, fun j h2 h3 => ?_, fun j oj x hj hx => ?_, fun j j' oj oj' x hj hj' hx hx' => ?_, fun j oj hj => ?_, fun x hx hPx => ?_⟩, fun j oj hj => ?_, fun j oj hj => ?_⟩
  · obtain ⟨k1, k2, k3⟩ := key hj
    have := h.own.num j oj k3
    exact ⟨this.1, this.2.1, by rw [List.getElem?_set_ne (Ne.symm k1)]; exact this.2.2⟩
  · have hji : j ≠ i := fun hh => by
      subst hh; rw [List.getElem?_set_self n3] at h3; cases h3
    rw [List.getElem?_set_ne (Ne.symm hji)] at h3
    obtain ⟨oj, h4⟩ := h.own.used j h2 h3
    exact ⟨oj, by rw [upF_ne hji]; rw [upF_ne hji] at h4; exact h4⟩
  · obtain ⟨k1, k2, k3⟩ := key hj
    rw [List.length_set]; exact h.own.page j oj x k3 hx
  · obtain ⟨k1, k2, k3⟩ := key hj
    obtain ⟨k4, k5, k6⟩ := key hj'
    exact h.own.apart j j' oj oj' x k3 k6 hx hx'
  · exact h.own.nodup j oj (key hj).2.2
  · rw [List.length_set] at hx
    obtain ⟨j, oj, h2, h3⟩ := h.own.all x hx hPx
    have hji : j ≠ i := fun hh => by
      subst hh; rw [upF_same] at h2; cases h2; rw [h0] at h3; simp at h3
    exact ⟨j, oj, by rw [upF_ne hji]; rw [upF_ne hji] at h2; exact h2, h3⟩
  · obtain ⟨k1, k2, k3⟩ := key hj
    exact h.ok j oj k1 k2
  · obtain ⟨k1, k2, k3⟩ := key hj
    obtain ⟨r1, r2⟩ := h.rpage k1 k2
    refine (h.recs j oj k1 k2).keep ?_ fun x hx => ?_
    · rw [turnI_page (by omega), hsp]
      split
      · rename_i he
        have hne : oj.i % 8 ≠ i % 8 := fun hh => k1 (by rw [← r1]; omega)
        rw [he]
        refine List.ext_getElem? fun x => ?_
        rw [List.getElem?_take, List.getElem?_take]
        split
        · rw [List.getElem?_drop, List.getElem?_drop, patch_out (by omega) (by omega)]
        · rfl
      · rfl
    · obtain ⟨h3, h4, h5⟩ := h.other k1 k2 hx
      rw [turnI_page (by omega), hsp, if_neg (by omega)]
end
section
variable {G G' : Gh} {κ μ s m p lq came : Nat} {w w' : World} {c : Csh} {P I : List Bool} {F : Nat → Option Opn} {B : Nat → List UInt8}
/-- Inodes in memory: on which pages, and as they were when all was committed last. -/
structure Ino (G : Gh) (κ μ : Nat) (w : World) (s m p lq came : Nat) (c : Csh) (P I : List Bool) (F : Nat → Option Opn) (B : Nat → List UInt8) : Prop where
  map : MapAt G κ μ w m p lq came c P I
  sto : StoreAt G w s m
  fs : FsOk c P I F B
  old : IOld c I.length
theorem Ino.ext {K : Nat → Prop} (h : Ino G κ μ w s m p lq came c P I F B) (hx : Ext K G w G' w') (hk : ¬ K κ) (hm : ¬ K μ) (h0 : ¬ K 0) : Ino G' κ μ w' s m p lq came c P I F B :=
  ⟨h.map.ext hx hk hm h0, h.sto.ext hx h0, h.fs, h.old⟩
theorem Ino.grow (h : Ino G κ μ w s m p lq came c P I F B) (hg : Grow w w') : Ino G κ μ w' s m p lq came c P I F B := h.ext (K := fun _ => False) (.grow hg) id id id
theorem Ino.put {c' : Csh} {P' I' : List Bool} {F' : Nat → Option Opn} {B' : Nat → List UInt8} {K : Nat → Prop} (h : Ino G κ μ w s m p lq came c P I F B) (hx : Ext K G w G' w') (h0 : ¬ K 0) (hm : MapAt G' κ μ w' m p lq came c' P' I') (hf : FsOk c' P' I' F' B') (hn : Near c c') (hi : I'.length = I.length) : Ino G' κ μ w' s m p lq came c' P' I' F' B' :=
  ⟨hm, h.sto.ext hx h0, hf, by rw [hi]; exact h.old.near hn⟩
/-- All is forgotten: some inodes, as they were. -/
def Back (G : Gh) (κ μ : Nat) (w : World) (s m p lq came k : Nat) (c : Csh) : Prop := ∃ c' P I F B, Ino G κ μ w s m p lq came c' P I F B ∧ Near c c' ∧ I.length = k
theorem Ino.back {c1 : Csh} (h : Ino G κ μ w s m p lq came c P I F B) {K : Nat → Prop} (hx : Ext K G w G' w') (h0 : ¬ K 0) (hm : MapC G' κ μ w' m p lq came c1.abort I.length) (hn : Near c c1) : Back G' κ μ w' s m p lq came I.length c := by
  obtain ⟨P0, I0, F0, B0, h1, h2, h3⟩ := (h.old.near hn).abort
  exact ⟨c1.abort, P0, I0, F0, B0, ⟨⟨by rw [h2]; exact hm, h1.alc⟩, h.sto.ext hx h0, h1, by rw [h2]; exact h3⟩, hn.trans (.abort c1), h2⟩
/-- A box: one value in a block of its own. -/
def BoxAt (G : Gh) (w : World) (b o : Nat) (v : Value) : Prop := ∃ t, w.heap[b]? = some (.cells #[v] t (0, 0)) ∧ G.own b = o ∧ G.fix b = 0
variable {b o : Nat} {v u : Value}
theorem BoxAt.ext {K : Nat → Prop} (h : BoxAt G w b o v) (hx : Ext K G w G' w') (hk : ¬ K o) : BoxAt G' w' b o v := by
  obtain ⟨t, h1, h2, h3⟩ := h
  have hlt := (Array.getElem?_eq_some_iff.1 h1).1
  exact ⟨t, hx.heap h1 (by rw [h2]; exact hk), by rw [hx.own b hlt]; exact h2, by rw [hx.fixe b hlt (by rw [h2]; exact hk)]; exact h3⟩
theorem BoxAt.grow (h : BoxAt G w b o v) (hg : Grow w w') : BoxAt G w' b o v := h.ext (K := fun _ => False) (.grow hg) id
theorem BoxAt.cell (h : BoxAt G w b o v) : w.cell? ⟨b, 0, none⟩ = some v := by obtain ⟨t, h1, h2, h3⟩ := h; rw [cell_block h1]; rfl
theorem BoxAt.lt (h : BoxAt G w b o v) : b < w.heap.size := by obtain ⟨t, h1, h2, h3⟩ := h; exact (Array.getElem?_eq_some_iff.1 h1).1
theorem BoxAt.keep {S : Nat → Prop} (h : BoxAt G w b o v) (hk : Keep S w w') (hs : ¬ S b) : BoxAt G w' b o v := by obtain ⟨t, h1, h2, h3⟩ := h; exact ⟨t, hk.heap h1 hs, h2, h3⟩
theorem BoxAt.store (h : BoxAt G w b o v) (hu : isCell u = true) : ∃ w', stF w (.pointer (some ⟨b, 0, none⟩)) u = some (undef, w') ∧ BoxAt G w' b o u ∧ Ext (fun x => x = o) G w G w' ∧ Keep (fun x => x = b) w w' := by
  obtain ⟨t, h1, h2, h3⟩ := h
  obtain ⟨w', hst, hb, hk⟩ := cell_store (i := 0) h1 (by simp) hu
  exact ⟨w', hst, ⟨t, hb, h2, h3⟩, .on0 hk h2 h3, hk⟩
theorem BoxAt.of {t : TypeId} (h : w.heap[b]? = some (.cells #[v] t (0, 0))) (ho : G.own b = o) (hf : G.fix b = 0) : BoxAt G w b o v := ⟨t, h, ho, hf⟩
end
end Go.Proofs.YtienelpepioggaaGreat

/- What is tried: make, set, resize, drop. -/
namespace Go.Proofs.YtienelpepioggaaGreat
open Go
set_option linter.unusedSimpArgs false
open Go.RowKit (intOf)
section rules
variable {k : Kont} {e : Env} {w : World} {l : List GOp} {d : Option Nat}
theorem max_rule {x y : Operand} {ts : Array TypeId} {ty : TypeId} {a b : Int} (hx : ev e x = .int .i64 a) (hy : ev e y = .int .i64 b) (h : R (symOps Tryz.prog l k (updO e d (.int .i64 (if b > a then b else a))) w)) :
    R (symOps Tryz.prog (⟨d, .hard (H (.call { callee := .builtin .max, args := #[x, y], argTypes := ts }) ty), none⟩ :: l) k e w) :=
  hard_rule (run_builtin (vs := [.int .i64 a, .int .i64 b]) (by simp [hx, hy]) (fun cs => by simp only [builtin, run_max_int2, Sem.run_bind, Result.andThen_ok]; rfl)) h
end rules
theorem fill_z {n : Nat} {e : Env} {z : Value} {l : List (Nat × Nat × Operand)} : fillV e (Array.replicate n z) l = fillF (Array.replicate n z) (l.map fun p => (p.1, p.2.1, ev e p.2.2)) := fill_all _ _
/-- An inode that is new; one that is gone. -/
def Opn.new (kd md i : Nat) : Opn := { kind := kd, mode := md, links := 1, size := 0, data := [], ind := 0, i := i }
theorem fill_new15 (kd md i : Nat) : fillF (Array.replicate 15 (.int .i64 0)) [(0, 1, .int .i64 kd), (1, 1, .int .i64 md), (2, 1, .int .i64 1)] = some ((Opn.new kd md i).cells.take 15).toArray := by kernel_rfl
theorem fill_new (kd md i : Nat) : fillF (Array.replicate 144 (.int .i64 0)) [(0, 15, .agg ((Opn.new kd md i).cells.take 15).toArray), (15, 1, .int .i64 i)] = some (Opn.new kd md i).cells.toArray := by kernel_rfl
theorem fill_gone (i : Nat) : fillF (Array.replicate 144 (.int .i64 0)) [(15, 1, .int .i64 i)] = some ({ Opn.zero with i := i } : Opn).cells.toArray := by kernel_rfl
theorem enterDrop1 {Φ : Value → World → Prop} {Ψ : List PanicEntry → World → Prop} {w : World} (v0 v1 v2 : Value) (h : symS 18 Tryz.prog F42 ⟨fun e w => Φ (oneOf []) w, fun _ _ _ => False, fun e w => Φ (oneOf []) w, Ψ⟩ (upd (upd (upd env0 0 v0) 1 v1) 2 v2) w) : Calls Tryz.prog 42 #[v0, v1, v2] w (Out Φ Ψ) :=
  calls_sym (args := [v0, v1, v2]) 18 [] Tryz.func42 (by kernel_rfl) (by kernel_rfl) (by decide) (by kernel_rfl) (by kernel_rfl) (by simp) F42_eq h
theorem enterMake1 {Φ : Value → World → Prop} {Ψ : List PanicEntry → World → Prop} {w : World} (v0 v1 v2 v3 : Value) (h : symS 26 Tryz.prog F32 ⟨fun e w => Φ (oneOf []) w, fun _ _ _ => False, fun e w => Φ (oneOf []) w, Ψ⟩ (upd (upd (upd (upd env0 0 v0) 1 v1) 2 v2) 3 v3) w) : Calls Tryz.prog 32 #[v0, v1, v2, v3] w (Out Φ Ψ) :=
  calls_sym (args := [v0, v1, v2, v3]) 26 [] Tryz.func32 (by kernel_rfl) (by kernel_rfl) (by decide) (by kernel_rfl) (by kernel_rfl) (by simp) F32_eq h
section
variable {c : Csh} {P I : List Bool} {F : Nat → Option Opn} {B : Nat → List UInt8} {i : Nat} {o : Opn}
theorem FMid.num_lt (h : FMid c P I F B i o) (k : Nat) : o.num k < 1000000 ∧ o.data.getD k 0 < 1000000 := by
  have hN := h.num
  have h1 : o.data.getD k 0 < 1000000 := by
    rw [List.getD_eq_getElem?_getD]
    by_cases hk : k < o.data.length
    · rw [List.getElem?_eq_getElem hk]
      have := (h.pg (n := o.data[k]) (by simp [Opn.own])).2.2.1
      simp only [Option.getD_some]; omega
    · rw [List.getElem?_eq_none (by omega)]; simp
  refine ⟨?_, h1⟩
  unfold Opn.num
  split
  · exact h1
  · by_cases hi : o.ind = 0
    · omega
    · have := (h.pg (n := o.ind) (by simp [Opn.own, hi])).2.2.1
      omega
end
section
variable {G : Gh} {κ μ m p lq came s q i a : Nat} {w : World} {c : Csh} {P I : List Bool} {F : Nat → Option Opn} {B : Nat → List UInt8} {o : Opn} {b : List UInt8} {size : Nat}
/-- An inode that has changed is saved. -/
theorem fsave_spec (h : MapAt G κ μ w m p lq came c P I) (hs : StoreAt G w s m) (hm : FMid c P I F B i o) (hok : o.Ok) (hb : Holds c o b) :
    Calls Tryz.prog 34 #[.pointer (some ⟨s, 0, none⟩), .agg o.cells.toArray] w (RetF (fun _ w' => ∃ G', Ext (fun x => x = μ) G w G' w' ∧ MapAt G' κ μ w' m p lq came (c.save o) P I ∧ FsOk (c.save o) P I (upF F i (some o)) (upB B i b))
      (fun w' => ∃ G' c1, Ext (fun x => x = μ) G w G' w' ∧ MapC G' κ μ w' m p lq came c1 I.length ∧ Dty [3 + o.i / 8, o.ind] c c1 ∧ c.cap < c.N ∧ c.cap < c.dirty.length + 2)) := by
  obtain ⟨n1, n2, n3, n4, n5, n6, n7, n8⟩ := hm.num
  have k1 := hok.mode
  have k2 := hok.links
  have k3 := hok.size
  refine RetF.mono (save_spec h.1 hs (o := o) (by omega) n5 n6 (fun hi => (hm.pg (n := o.ind) (by simp [Opn.own, hi])).2.2.1) ⟨by omega, by omega, by omega, hm.num_lt⟩) ?_ (fun _ hh => hh)
  rintro _ w' ⟨G', hx, h'⟩
  have hf := hm.save hok (h.1.cache.oks.plen (by omega)) hb.flat hb.len
  exact ⟨G', hx, ⟨h', hf.alc⟩, hf⟩
/-- What stands behind a change of one inode. -/
def Did (K : Nat → Prop) (G : Gh) (κ μ : Nat) (w : World) (m p lq came : Nat) (c : Csh) (P I : List Bool) (F : Nat → Option Opn) (B : Nat → List UInt8) (i : Nat) (Q : Csh → List Bool → Opn → List UInt8 → Prop) (w' : World) : Prop :=
  ∃ G' c' P' o' b', Ext K G w G' w' ∧ MapAt G' κ μ w' m p lq came c' P' I ∧ FsOk c' P' I (upF F i (some o')) (upB B i b') ∧ Q c' P' o' b'
theorem stop_of {K : Nat → Prop} {G' : Gh} {w' : World} {c1 : Csh} {L : List Nat} {k free want most : Nat} (hx : Ext K G w G' w') (hm : MapC G' κ μ w' m p lq came c1 k) (hd : Dty L c c1) (h : NoRoom c free want most) : Stop K G κ μ w m p lq came k c free want most w' := ⟨G', c1, L, hx, hm, hd, h⟩
/-- .. and what else holds there. -/
def StopZ (K : Nat → Prop) (G : Gh) (κ μ : Nat) (w : World) (m p lq came k : Nat) (c : Csh) (free want most : Nat) (Z : Gh → World → Prop) (w' : World) : Prop :=
  ∃ G' c' L, Ext K G w G' w' ∧ MapC G' κ μ w' m p lq came c' k ∧ Dty L c c' ∧ NoRoom c free want most ∧ Z G' w'
theorem Stop.z {K K' : Nat → Prop} {w' : World} {k free want most : Nat} (h : Stop K G κ μ w m p lq came k c free want most w') (hk : ∀ x, K x → K' x) : StopZ K' G κ μ w m p lq came k c free want most (fun _ _ => True) w' := by
  obtain ⟨G', c', L, h1, h2, h3, h4⟩ := h
  exact ⟨G', c', L, h1.mono hk, h2, h3, h4, trivial⟩
/-- GiveInode, whatever the room. -/
def GiveIR (G : Gh) (κ μ : Nat) (w : World) (m p lq came : Nat) (c : Csh) (P I : List Bool) (n : Nat) (v : Value) : Prop :=
  (v = .int .i64 7 ∧ c.fits [1] = false ∧ MapAt G κ μ w m p lq came c P I) ∨ (v = .int .i64 0 ∧ MapAt G κ μ w m p lq came (c.turnI n) P (I.set n false))
theorem giveinode_spec (h : MapAt G κ μ w m p lq came c P I) {n : Nat} (hn : 1 ≤ n) (hI : I[n]? = some true) :
    Calls Tryz.prog 43 #[.pointer (some ⟨m, 0, none⟩), .int .i64 n] w (Ret fun v w' => ∃ G', Ext (fun x => x = μ) G w G' w' ∧ GiveIR G' κ μ w' m p lq came c P I n v) := by
  obtain ⟨f1, f2, f3, f4, f5, f6, f7, f8⟩ := h.facts
  have hlt := (List.getElem?_eq_some_iff.1 hI).1
  apply enter43
  apply R_in
  simp (maxSteps := 1000000) (disch := omega) only [↓sy1, sy2, sy3, readOK, sy5, sy6, Nat.reduceEqDiff, ↓reduceIte, sy7, sy8, sy9, sya, oneOf, syb, syc, Nat.reduceAdd, Nat.reduceMul, syd, sye, syf, syg, syh, reduceCtorEq, F43]
  refine call0 (give_spec h.1 (pg := 1) (.inl rfl) (L := I) h.2.i f1 (n := n) (least := 1)) ?_
  rintro _ w2 ⟨G2, hx2, rfl, h2⟩
  have hg0 : giveC I (n : Int) ((1 : Nat) : Int) = 0 := by
    unfold giveC
    rw [if_neg (by omega), Int.toNat_natCast, if_pos hI]
  rw [hg0, show (((1 : Nat) : Int)) = 1 from rfl, Int.toNat_natCast] at h2
  rw [hg0, show (((1 : Nat) : Int)) = 1 from rfl]
  cases hf : c.fits [(1 : Int)] with
  | false =>
    rw [hf, if_neg (by simp)] at h2
    rw [if_pos ⟨rfl, rfl⟩]
    simp (maxSteps := 1000000) (disch := omega) only [↓sy1, sy2, sy3, readOK, sy5, sy6, Nat.reduceEqDiff, ↓reduceIte, sy7, sy8, sy9, sya, oneOf, syb, syc, Nat.reduceAdd, Nat.reduceMul, syd, sye, syf, syg, syh, reduceCtorEq]
    exact R_out ⟨G2, hx2, .inl ⟨rfl, hf, h2, h.2⟩⟩
  | true =>
    rw [hf, if_pos ⟨rfl, rfl⟩] at h2
    rw [if_neg (by simp)]
    simp (maxSteps := 1000000) (disch := omega) only [↓sy1, sy2, sy3, readOK, sy5, sy6, Nat.reduceEqDiff, ↓reduceIte, sy7, sy8, sy9, sya, oneOf, syb, syc, Nat.reduceAdd, Nat.reduceMul, syd, sye, syf, syg, syh, reduceCtorEq]
    refine R_out ⟨G2, hx2, .inr ⟨rfl, ?_, ?_⟩⟩
    · rw [List.length_set]; exact h2
    · exact h.2.flipI f7 hn hI
/-- What stands behind a Drop. -/
def Gone (G : Gh) (κ μ : Nat) (w : World) (m p lq came : Nat) (c : Csh) (P I : List Bool) (F : Nat → Option Opn) (B : Nat → List UInt8) (i : Nat) (o : Opn) (w' : World) : Prop :=
  ∃ G' c' P', Ext (fun x => x = μ ∨ x = 6) G w G' w' ∧ MapAt G' κ μ w' m p lq came c' P' (I.set i false) ∧ FsOk c' P' (I.set i false) (upF F i none) B ∧ freeN P' = freeN P + needN o.size ∧ ∃ L, L.length ≤ 3 ∧ Dty L c c'
set_option maxRecDepth 20000 in
set_option maxHeartbeats 1000000 in
theorem drop1_spec {f : Nat} (h : MapAt G κ μ w m p lq came c P I) (hs : StoreAt G w s m) (ha : BoxAt G w a 0 (.pointer (some ⟨s, 0, none⟩))) (hf : BoxAt G w f 0 (.int .i64 i)) (hq : OpnAt w q o) (hoq : G.own q = 6 ∧ G.fix q = 0) (hm : FMid c P I F B i o) (hok : o.Ok) (hb : Holds c o b) :
    Calls Tryz.prog 42 #[.pointer (some ⟨a, 0, none⟩), .pointer (some ⟨q, 0, none⟩), .pointer (some ⟨f, 0, none⟩)] w (RetF (fun _ w' => Gone G κ μ w m p lq came c P I F B i o w')
      (fun w' => Stop (fun x => x = μ ∨ x = 6) G κ μ w m p lq came I.length c 0 0 3 w')) := by
  obtain ⟨hne1, hne2, hne3⟩ := h.1.cache.ne
  have hx6 : ∀ x, x = μ → x = μ ∨ x = 6 := fun x hh => .inl hh
  have h06 : ¬ ((0 : Nat) = μ ∨ (0 : Nat) = 6) := by omega
  have h0μ : ¬ ((0 : Nat) = μ) := by omega
  apply enterDrop1
  apply R_in
  simp (maxSteps := 1000000) (disch := omega) only [↓sy1, sy2, sy3, readOK, sy5, sy6, Nat.reduceEqDiff, ↓reduceIte, sy7, sy8, sy9, sya, oneOf, syb, syc, Nat.reduceAdd, Nat.reduceMul, syd, sye, syf, syg, syh, reduceCtorEq, F42, ha.cell, hf.cell]
  refine callF (resize_spec (size := 0) h hs hq hoq hm hok hb (by omega)) ?_ ?_
  · rintro w1 ⟨G1, c1, L, hx1, h1, hd, hn⟩
    refine ⟨rfl, stop_of hx1 h1 hd ?_⟩
    rcases hn with hn | ⟨hn1, hn2⟩
    · have : needN 0 = 0 := rfl
      omega
    · have : needN 0 = 0 := rfl
      exact .inr ⟨hn1, by omega⟩
  rintro _ w1 ⟨G1, c1, P1, o1, hx1, h1, hq1, hoq1, hr⟩
  have ha1 := ha.ext hx1 h06
  have hf1 := hf.ext hx1 h06
  have hs1 := hs.ext hx1 h06
  obtain ⟨n1, n2, n3, n4, n5, n6, n7, n8⟩ := hr.mid.num
  have hlen := hr.ok.own_len
  rw [hr.sz] at hlen
  have hown : o1.own = [] := List.eq_nil_of_length_eq_zero hlen
  have hfree := hr.free
  rw [show needN 0 = 0 from rfl] at hfree
  have hdt := hr.dty
  rw [hown] at hdt
  have hzi : ({ Opn.zero with i := i } : Opn).i = i := rfl
  simp (maxSteps := 1000000) (disch := omega) only [↓sy1, sy2, sy3, readOK, sy5, sy6, Nat.reduceEqDiff, ↓reduceIte, sy7, sy8, sy9, sya, oneOf, syb, syc, Nat.reduceAdd, Nat.reduceMul, syd, sye, syf, syg, syh, reduceCtorEq, ha1.cell, hf1.cell, fill_z, fill_gone]
  refine callF (save_spec h1.1 hs1 (o := { Opn.zero with i := i }) n3 n5 n6 (fun hh => absurd rfl hh) ⟨by show (0 : Nat) < _; omega, by show (0 : Nat) < _; omega, by show (0 : Nat) < _; omega, fun j => by constructor <;> simp [Opn.num, Opn.zero]⟩) ?_ ?_
  · rintro w2 ⟨G2, c2, hx2, h2, hd, hc1, hc2⟩
    have hl := hdt.len
    have hN := hdt.N
    have hC := hdt.cap
    simp only [List.length_cons, List.length_nil] at hl
    exact ⟨rfl, stop_of (hx1.trans (hx2.mono hx6)) h2 (hdt.app hd) (.inr ⟨by omega, by omega⟩)⟩
  rintro _ w2 ⟨G2, hx2, h2⟩
  have ha2 := ha1.ext hx2 h0μ
  have hf2 := hf1.ext hx2 h0μ
  have hs2 := hs1.ext hx2 h0μ
  have hd2 : Dty [2, 3 + i / 8] c (c1.save { Opn.zero with i := i }) := (hdt.mono (by simp)).trans ((c1.save_dty0 (o := { Opn.zero with i := i }) rfl).mono (by simp [hzi]))
  have hx02 := hx1.trans (hx2.mono hx6)
  have halc : Alc (c1.save { Opn.zero with i := i }) P1 I := h1.2.write (by omega)
  have hmi : I[i]? = some true := (hr.mid.own.num i o1 upF_same).2.2
  simp (maxSteps := 1000000) (disch := omega) only [↓sy1, sy2, sy3, readOK, sy5, sy6, Nat.reduceEqDiff, ↓reduceIte, sy7, sy8, sy9, sya, oneOf, syb, syc, Nat.reduceAdd, Nat.reduceMul, syd, sye, syf, syg, syh, reduceCtorEq]
  refine draw42_0 (fun _ => False) ?_
  have hgd : Grow w2 w2.drew := (Keep.refl _ _).drew
  have hx3 := hx02.trans (.grow hgd)
  have h3 : MapAt G2 κ μ w2.drew m p lq came _ P1 I := ⟨h2.grow hgd, halc⟩
  have ha3 := ha2.grow hgd
  have hf3 := hf2.grow hgd
  have hs3 := hs2.grow hgd
  generalize w2.drew = w3 at hgd hx3 h3 ha3 hf3 hs3 ⊢
  simp (maxSteps := 1000000) (disch := omega) only [↓sy1, sy2, sy3, readOK, sy5, sy6, Nat.reduceEqDiff, ↓reduceIte, sy7, sy8, sy9, sya, oneOf, syb, syc, Nat.reduceAdd, Nat.reduceMul, syd, sye, syf, syg, syh, reduceCtorEq, PL42_0, ha3.cell, hf3.cell, hs3.cell]
  refine call0 (giveinode_spec h3 n2 hmi) ?_
  rintro _ w4 ⟨G4, hx4, hR⟩
  rcases hR with ⟨rfl, hno, h4⟩ | ⟨rfl, h4⟩
  · simp (maxSteps := 1000000) (disch := omega) only [↓sy1, sy2, sy3, readOK, sy5, sy6, Nat.reduceEqDiff, ↓reduceIte, sy7, sy8, sy9, sya, oneOf, syb, syc, Nat.reduceAdd, Nat.reduceMul, syd, sye, syf, syg, syh, reduceCtorEq, Int.reduceEq, decide_false]
    refine panic_rule (by simp only [upd_at, Nat.reduceEqDiff, reduceIte, ev_tmp, ev_const, List.map_cons, List.map_nil]; rfl) ?_
    refine ⟨rfl, stop_of (hx3.trans (hx4.mono hx6)) h4.1 hd2 (.inr ⟨hd2.nofitN (l := [1]) (fun x hx => ?_) hno, ?_⟩)⟩
    · have := hdt.N
      simp at hx; subst hx; omega
    · have := (hd2.mono (L' := [1, 2, 3 + i / 8]) (by simp)).nofit (l := [1]) (fun x hx => by simp at hx; subst hx; exact ⟨1, by simp, rfl⟩) hno
      simpa using this
  · simp (maxSteps := 1000000) (disch := omega) only [↓sy1, sy2, sy3, readOK, sy5, sy6, Nat.reduceEqDiff, ↓reduceIte, sy7, sy8, sy9, sya, oneOf, syb, syc, Nat.reduceAdd, Nat.reduceMul, syd, sye, syf, syg, syh, reduceCtorEq, decide_true, not_true_eq_false]
    refine R_out ⟨G4, _, P1, hx3.trans (hx4.mono hx6), h4, hr.mid.wipe hown (h1.1.cache.oks.plen (by omega)) h1.facts.2.2.2.2.2.2.1, hfree, [1, 2, 3 + i / 8], by simp, ?_⟩
    exact (hd2.mono (by simp)).trans (turnI_dty.mono (by simp))
/-- What stands behind a Make. -/
def Born (G : Gh) (κ μ : Nat) (w : World) (m p lq came : Nat) (c : Csh) (P I : List Bool) (F : Nat → Option Opn) (B : Nat → List UInt8) (kd md f : Nat) (w' : World) : Prop :=
  ∃ G' c', Ext (fun x => x = μ ∨ x = 6) G w G' w' ∧ MapAt G' κ μ w' m p lq came c' P (I.set (firstN I) true) ∧ FsOk c' P (I.set (firstN I) true) (upF F (firstN I) (some (Opn.new kd md (firstN I)))) (upB B (firstN I) []) ∧ firstN I < I.length ∧ BoxAt G' w' f 6 (.int .i64 (firstN I)) ∧ Dty [1, 3 + firstN I / 8] c c'
set_option maxRecDepth 20000 in
set_option maxHeartbeats 1000000 in
theorem make1_spec {f k1 k2 kd md : Nat} {v : Value} (h : MapAt G κ μ w m p lq came c P I) (hs : StoreAt G w s m) (hfs : FsOk c P I F B) (ha : BoxAt G w a 0 (.pointer (some ⟨s, 0, none⟩))) (hf : BoxAt G w f 6 v) (hk1 : BoxAt G w k1 0 (.int .i64 kd)) (hk2 : BoxAt G w k2 0 (.int .i64 md)) (hkd : 1 ≤ kd ∧ kd ≤ 3) (hmd : md ≤ 4095) :
    Calls Tryz.prog 32 #[.pointer (some ⟨a, 0, none⟩), .pointer (some ⟨f, 0, none⟩), .pointer (some ⟨k1, 0, none⟩), .pointer (some ⟨k2, 0, none⟩)] w (RetF (fun _ w' => Born G κ μ w m p lq came c P I F B kd md f w')
      (fun w' => StopZ (fun x => x = μ ∨ x = 6) G κ μ w m p lq came I.length c (freeN I) 1 3 (fun G w => ∃ v, BoxAt G w f 6 v) w')) := by
  obtain ⟨hne1, hne2, hne3⟩ := h.1.cache.ne
  have h6 := h.1.ne
  have hx6 : ∀ x, x = μ → x = μ ∨ x = 6 := fun x hh => .inl hh
  have hx6' : ∀ x, x = 6 → x = μ ∨ x = 6 := fun x hh => .inr hh
  have h0μ : ¬ ((0 : Nat) = μ) := by omega
  have hnm : 6 ≠ μ := fun hh => h6.2 hh.symm
  apply enterMake1
  apply R_in
  simp (maxSteps := 1000000) (disch := omega) only [↓sy1, sy2, sy3, readOK, sy5, sy6, Nat.reduceEqDiff, ↓reduceIte, sy7, sy8, sy9, sya, oneOf, syb, syc, Nat.reduceAdd, Nat.reduceMul, syd, sye, syf, syg, syh, reduceCtorEq, F32, ha.cell, hs.cell]
  refine call0 (inode_spec h) ?_
  rintro _ w1 ⟨G1, hx1, hR⟩
  rcases hR with ⟨rfl, hno, h1⟩ | ⟨rfl, hn, _, h1⟩
  · simp (maxSteps := 1000000) (disch := omega) only [↓sy1, sy2, sy3, readOK, sy5, sy6, Nat.reduceEqDiff, ↓reduceIte, sy7, sy8, sy9, sya, oneOf, syb, syc, Nat.reduceAdd, Nat.reduceMul, syd, sye, syf, syg, syh, reduceCtorEq, Int.reduceEq, decide_false]
    refine panic_rule (by simp only [upd_at, Nat.reduceEqDiff, reduceIte, ev_tmp, ev_const, List.map_cons, List.map_nil]; rfl) ?_
    by_cases hlt : firstN I < I.length
    · have hno := hno hlt
      have h3 := h.1.n3
      refine ⟨rfl, G1, c, [1], hx1.mono hx6, h1.1, .refl [1] c, .inr ⟨(Dty.refl [1] c).nofitN (l := [1]) (fun x hx => by simp at hx; subst hx; omega) hno, ?_⟩, v, hf.ext hx1 hnm⟩
      have := (Dty.refl [1] c).nofit (l := [1]) (fun x hx => by simp at hx; subst hx; exact ⟨1, by simp, rfl⟩) hno
      simp at this; omega
    · refine ⟨rfl, G1, c, [1], hx1.mono hx6, h1.1, .refl [1] c, .inl ?_, v, hf.ext hx1 hnm⟩
      rw [freeN_zero (l := I) (by have := firstN_le I; omega)]; omega
  have ha1 := ha.ext hx1 h0μ
  have hs1 := hs.ext hx1 h0μ
  have hf1 := hf.ext hx1 hnm
  have hk11 := hk1.ext hx1 h0μ
  have hk21 := hk2.ext hx1 h0μ
  have hmid := hfs.born (o := Opn.new kd md (firstN I)) h.facts.2.2.2.2.2.2.1 hn rfl rfl
  have hok : (Opn.new kd md (firstN I)).Ok := ⟨hkd, hmd, by show 1 ≤ 65535; omega, by show 0 ≤ 70656; omega, by simp [Opn.new, pagesN], by simp [Opn.new]⟩
  obtain ⟨w2, st2, hf2, hx2, _⟩ := hf1.store (u := .int .i64 (firstN I : Nat)) rfl
  have h2 := h1.ext hx2 h6.1 h6.2 (by omega)
  have hs2 := hs1.ext hx2 (by omega)
  have ha2 := ha1.ext hx2 (by omega)
  have hk12 := hk11.ext hx2 (by omega)
  have hk22 := hk21.ext hx2 (by omega)
  simp (maxSteps := 1000000) (disch := omega) only [↓sy1, sy2, sy3, readOK, sy5, sy6, Nat.reduceEqDiff, ↓reduceIte, sy7, sy8, sy9, sya, oneOf, syb, syc, Nat.reduceAdd, Nat.reduceMul, syd, sye, syf, syg, syh, reduceCtorEq, decide_true, not_true_eq_false, st2, ha2.cell, hk12.cell, hk22.cell, hf2.cell, fill_z, fill_new15 kd md (firstN I), fill_new]
  refine callF (fsave_spec (b := []) h2 hs2 hmid hok ⟨by simp [Opn.new], by simp [Opn.new]⟩) ?_ ?_
  · rintro w3 ⟨G3, c3, hx3, h3, hd, hc1, hc2⟩
    rw [List.length_set] at h3
    have hdt : Dty [1] c (c.turnI (firstN I)) := turnI_dty
    have hl := hdt.len
    have hN := hdt.N
    have hC := hdt.cap
    simp only [List.length_cons, List.length_nil] at hl
    exact ⟨rfl, G3, c3, _, (hx1.mono hx6).trans ((hx2.mono hx6').trans (hx3.mono hx6)), h3, hdt.app hd, .inr ⟨by omega, by omega⟩, _, hf2.ext hx3 hnm⟩
  rintro _ w3 ⟨G3, hx3, h3, hf3⟩
  simp (maxSteps := 1000000) (disch := omega) only [↓sy1, sy2, sy3, readOK, sy5, sy6, Nat.reduceEqDiff, ↓reduceIte, sy7, sy8, sy9, sya, oneOf, syb, syc, Nat.reduceAdd, Nat.reduceMul, syd, sye, syf, syg, syh, reduceCtorEq]
  refine R_out ⟨G3, _, (hx1.mono hx6).trans ((hx2.mono hx6').trans (hx3.mono hx6)), h3, hf3, hn, hf2.ext hx3 hnm, ?_⟩
  exact (turnI_dty.mono (by simp)).trans ((Csh.save_dty0 (c.turnI (firstN I)) (o := Opn.new kd md (firstN I)) rfl).mono (by simp [Opn.new]))
end
end Go.Proofs.YtienelpepioggaaGreat

/- What is tried: write. -/
namespace Go.Proofs.YtienelpepioggaaGreat
open Go
set_option linter.unusedSimpArgs false
open Go.RowKit (intOf)
/-- A patch behind a patch. -/
theorem patch_cont {l x y : List UInt8} {a : Nat} (h : a + x.length + y.length ≤ l.length) : patch (patch l a x) (a + x.length) y = patch l a (x ++ y) := by
  have h1 : (l.take a).length = a := by rw [List.length_take]; omega
  have h2 : (l.take a ++ x).length = a + x.length := by rw [List.length_append, h1]
  unfold patch
  rw [List.take_left' h2, List.length_append, ← List.drop_drop (i := y.length) (j := a + x.length), List.drop_left' h2, List.drop_drop, List.append_assoc (l.take a) x y]
  simp [Nat.add_assoc]
theorem patch_left {l z x : List UInt8} {a : Nat} (h : a + x.length ≤ l.length) : patch (l ++ z) a x = patch l a x ++ z := by
  unfold patch
  rw [List.take_append_of_le_length (by omega), List.drop_append_of_le_length (by omega)]
  simp [List.append_assoc]
theorem take_chunk (d : List UInt8) (j n : Nat) : d.take j ++ (d.drop j).take n = d.take (j + ((d.drop j).take n).length) := by
  rw [← List.take_add, List.length_take, List.length_drop]
  by_cases h : n ≤ d.length - j
  · rw [Nat.min_eq_left h]
  · rw [Nat.min_eq_right (by omega), List.take_of_length_le (by omega), List.take_of_length_le (by omega)]
/-- The bytes of a file into which others were written. -/
def wrB (b : List UInt8) (at_ : Nat) (d : List UInt8) : List UInt8 := patch (rszB b (max b.length (at_ + d.length))) at_ d
theorem wrB_length (b : List UInt8) (at_ : Nat) (d : List UInt8) : (wrB b at_ d).length = max b.length (at_ + d.length) := by
  rw [wrB, patch_length (by rw [rszB_length]; omega), rszB_length]
/-- A row that is none of K's. -/
def RowO (K : Nat → Prop) (G : Gh) (w : World) (v : Value) (l : List UInt8) : Prop := HasB w v l ∧ ∀ b, v.ownBlock = some b → b < w.heap.size ∧ ¬ K (G.own b)
section
variable {K K' : Nat → Prop} {G G' : Gh} {w w' : World} {v : Value} {l : List UInt8}
theorem RowO.ext (h : RowO K G w v l) (hx : Ext K' G w G' w') (hk : ∀ x, K' x → K x) : RowO K G' w' v l :=
  ⟨h.1.keep hx.keep (fun b hb _ hh => (h.2 b hb).2 (hk _ hh)), fun b hb => ⟨Nat.lt_of_lt_of_le (h.2 b hb).1 hx.size, by rw [hx.own b (h.2 b hb).1]; exact (h.2 b hb).2⟩⟩
theorem RowO.slcFrom (h : RowO K G w v l) {m : Nat} (hm : m ≤ l.length) : ∃ v', slcF 1 v (some (.int .i64 m)) none none = some v' ∧ RowO K G w v' (l.drop m) := by
  obtain ⟨h1, h2⟩ := h
  have hd : bs (l.drop m) = (bs l).drop m := by simp [bs, List.map_drop]
  obtain ⟨v', h3, h4⟩ := Has.slcFrom h1 (m := m) (by rw [bs_length]; exact hm)
  refine ⟨v', h3, by show Has 1 w v' (bs (l.drop m)); rw [hd]; exact h4, fun b hb => h2 b ?_⟩
  rcases h1 with ⟨b0, o0, n0, c0, rfl, _, _, _⟩ | ⟨_, rfl⟩
  · simp only [slcF, slcV, bndV, Option.isSome_none, Bool.false_eq_true, if_false] at h3
    split at h3
    · cases h3
    · cases h3
      rw [← hb]
      split <;> first | rfl | (simp [add_lit]; rfl)
  · simp only [slcF, slcV, bndV, Option.isSome_none, Bool.false_eq_true, if_false] at h3
    split at h3
    · cases h3
    · cases h3
      rw [← hb]
      split <;> first | rfl | (simp [add_lit]; rfl)
theorem Has.slice {xs : List Value} (h : Has 1 w v xs) : ∃ a c, v = .slice a xs.length c := by
  rcases h with ⟨b0, o0, n0, c0, rfl, h1, _, _⟩ | ⟨rfl, rfl⟩
  · exact ⟨_, c0, by rw [h1, Nat.mul_one]⟩
  · exact ⟨none, 0, rfl⟩
end
section rules
variable {k : Kont} {e : Env} {w : World} {l : List GOp} {d : Option Nat}
/-- copy, into a part of a row of bytes. -/
theorem copyB_rule {x y : Operand} {ty : TypeId} {g o n c : Nat} {ls b : List UInt8} (hx : ev e x = .slice (some ⟨g, o, none⟩) n c) (hr : ByteRow w g ls) (ho : o + n ≤ ls.length) (hy : HasB w (ev e y) b) (hb : b ≠ [])
    (h : ∀ w', Keep (fun b => b = g) w w' → ByteRow w' g (patch ls o (b.take n)) → R (symOps Tryz.prog l k (updO e d (.int .i64 ((b.take n).length : Nat))) w')) :
    R (symOps Tryz.prog (⟨d, .hard (H (.call { callee := .builtin .copy, args := #[x, y], argTypes := #[46, 46] }) ty), none⟩ :: l) k e w) := by
  obtain ⟨cur, h1, h2, h3⟩ := hr
  rcases hy with ⟨b0, o0, n0, c0, hyv, hn0, hc0, hcell⟩ | ⟨he, _⟩
  rotate_left
  · exact absurd (by simpa [bs] using he) hb
  rw [Nat.mul_one, bs_length] at hn0
  have hlen : (bs (b.take n)).length = Nat.min n0 n := by
    rw [bs_length, List.length_take, ← hn0, Nat.min_comm]
  have hsub : bs (b.take n) = (bs b).take n := by simp [bs, List.map_take]
  obtain ⟨i, hi, hz, hsz, hby⟩ := elemB.hi
  have hle : (b.take n).length ≤ n := by rw [List.length_take]; omega
  have hrun := run_copy_row Tryz.prog w 46 46 ty 5 g o n c ⟨b0, o0, none⟩ n0 c0 cur 5 (bs (b.take n)) elemB.ht (by rw [hi]; simp [hsz]) h1 hlen (fun j v hj => by
      rw [add_lit]
      refine hcell j v ?_
      rw [hsub] at hj
      rw [List.getElem?_take] at hj
      split at hj
      · exact hj
      · cases hj) (by rw [bs_length]; omega) (fun v hv => isCell_one (bs_cell _ v hv))
  have hrr := setRow_heap w g cur ((List.take o cur.toList ++ bs (b.take n) ++ List.drop (o + (bs (b.take n)).length) cur.toList).toArray) 5 (0, 0) h1
  have hkk : Keep (fun b => b = g) w (w.setRow g ((List.take o cur.toList ++ bs (b.take n) ++ List.drop (o + (bs (b.take n)).length) cur.toList).toArray)) := ⟨rfl, rfl, rfl, by simp, fun k _ hk => setRow_other w g k _ hk⟩
  generalize w.setRow g ((List.take o cur.toList ++ bs (b.take n) ++ List.drop (o + (bs (b.take n)).length) cur.toList).toArray) = w' at hrun hrr hkk
  have hpl := patch_length (l := ls) (o := o) (b := b.take n) (by omega)
  refine hard_rule (run_builtin (vs := [.slice (some ⟨g, o, none⟩) n c, .slice (some ⟨b0, o0, none⟩) n0 c0]) (by simp [hx, hyv]) (fun cs => by
    simp only [builtin, Sem.run_bind, hrun, Result.andThen_ok]; rfl)) ?_
  rw [bs_length]
  refine h w' hkk ⟨_, hrr, ?_, ?_⟩
  · rw [hpl]; simp [bs_length]; omega
  · rw [hpl]
    have h4 : bs (patch ls o (b.take n)) = (bs ls).take o ++ bs (b.take n) ++ (bs ls).drop (o + (b.take n).length) := by
      simp [patch, bs, List.map_take, List.map_drop]
    rw [h4, ← h3, List.take_take, Nat.min_eq_left (by omega), List.drop_take, bs_length]
    have hl : (cur.toList.take o ++ bs (b.take n)).length = o + (b.take n).length := by
      rw [List.length_append, List.length_take, bs_length, Array.length_toList]; omega
    simp only
    rw [List.take_append, hl, List.take_of_length_le (by rw [hl]; omega)]
end rules
theorem enterWr1 {Φ : Value → World → Prop} {Ψ : List PanicEntry → World → Prop} {w : World} (v0 v1 v2 v3 : Value) (h : symS 55 Tryz.prog F36 ⟨fun e w => Φ (oneOf []) w, fun _ _ _ => False, fun e w => Φ (oneOf []) w, Ψ⟩ (upd (upd (upd (upd env0 0 v0) 1 v1) 2 v2) 3 v3) w) : Calls Tryz.prog 36 #[v0, v1, v2, v3] w (Out Φ Ψ) :=
  calls_sym (args := [v0, v1, v2, v3]) 55 [] Tryz.func36 (by kernel_rfl) (by kernel_rfl) (by decide) (by kernel_rfl) (by kernel_rfl) (by simp) F36_eq h
/-- How long the slice in a box is. -/
def lenIn (w : World) (b : Nat) : Nat := match w.cell? ⟨b, 0, none⟩ with | some (.slice _ n _) => n | _ => 0
theorem BoxAt.lenIn {G : Gh} {w : World} {b o n c : Nat} {a : Option Addr} (h : BoxAt G w b o (.slice a n c)) : lenIn w b = n := by
  unfold Go.Proofs.YtienelpepioggaaGreat.lenIn
  rw [h.cell]
theorem BoxAt.ne_opn {G : Gh} {w : World} {b o q : Nat} {v : Value} {x : Opn} (h : BoxAt G w b o v) (hq : OpnAt w q x) : q ≠ b := by
  obtain ⟨t, h1, _⟩ := h
  intro hh
  subst hh
  rw [hq] at h1
  have := congrArg Array.size (Obj.cells.inj (Option.some.inj h1)).1
  simp [x.cells_length] at this
theorem BoxAt.ne_box {G : Gh} {w : World} {b b' o o' : Nat} {v v' : Value} (h : BoxAt G w b o v) (h' : BoxAt G w b' o' v') (hv : v ≠ v') : b ≠ b' := by
  obtain ⟨t, h1, _⟩ := h
  obtain ⟨t', h2, _⟩ := h'
  intro hh
  subst hh
  rw [h1] at h2
  have := (Obj.cells.inj (Option.some.inj h2)).1
  simp at this
  exact hv this
section
variable {G : Gh} {κ μ m p lq came s q i a : Nat} {w : World} {c : Csh} {P I : List Bool} {F : Nat → Option Opn} {B : Nat → List UInt8} {o : Opn} {b d : List UInt8}
set_option maxRecDepth 20000 in
set_option maxHeartbeats 4000000 in
theorem write1_spec {fa fb pos : Nat} {bv : Value} (h : MapAt G κ μ w m p lq came c P I) (hs : StoreAt G w s m) (ha : BoxAt G w a 0 (.pointer (some ⟨s, 0, none⟩))) (hq : OpnAt w q o) (hoq : G.own q = 6 ∧ G.fix q = 0) (hfa : BoxAt G w fa (κ + μ + 8) (.int .i64 pos)) (hfb : BoxAt G w fb (κ + μ + 8) bv) (hd : RowO (fun x => x = μ ∨ x = 6 ∨ x = κ + μ + 8) G w bv d)
    (hm : FMid c P I F B i o) (hok : o.Ok) (hb : Holds c o b) (hsz : pos + d.length ≤ 70656) :
    Calls Tryz.prog 36 #[.pointer (some ⟨a, 0, none⟩), .pointer (some ⟨q, 0, none⟩), .pointer (some ⟨fa, 0, none⟩), .pointer (some ⟨fb, 0, none⟩)] w
      (RetF (fun _ w' => Did (fun x => x = μ ∨ x = 6 ∨ x = κ + μ + 8) G κ μ w m p lq came c P I F B i (fun c' P' o' b' => b' = wrB b pos d ∧ o'.size = max o.size (pos + d.length) ∧ o'.kind = o.kind ∧ o'.mode = o.mode ∧ o'.links = o.links ∧ freeN P' + needN (max o.size (pos + d.length)) = freeN P + needN o.size ∧ Dty (2 :: (3 + i / 8) :: o'.own) c c') w')
      (fun w' => Stop (fun x => x = μ ∨ x = 6 ∨ x = κ + μ + 8) G κ μ w m p lq came I.length c (freeN P + needN o.size) (needN (max o.size (pos + d.length))) (3 + needN (max o.size (pos + d.length))) w')) := by
  obtain ⟨hne1, hne2, hne3⟩ := h.1.cache.ne
  have h6 := h.1.ne
  have hx6 : ∀ x, x = μ → x = μ ∨ x = 6 ∨ x = κ + μ + 8 := fun x hh => .inl hh
  have hx6' : ∀ x, x = 6 → x = μ ∨ x = 6 ∨ x = κ + μ + 8 := fun x hh => .inr (.inl hh)
  have hx8 : ∀ x, x = κ + μ + 8 → x = μ ∨ x = 6 ∨ x = κ + μ + 8 := fun x hh => .inr (.inr hh)
  have hx68 : ∀ x, x = μ ∨ x = 6 → x = μ ∨ x = 6 ∨ x = κ + μ + 8 := fun x hh => hh.elim .inl (fun h => .inr (.inl h))
  have h06 : ¬ ((0 : Nat) = μ ∨ (0 : Nat) = 6) := by omega
  have h86 : ¬ (κ + μ + 8 = μ ∨ κ + μ + 8 = 6) := by omega
  have h8μ : ¬ (κ + μ + 8 = μ) := by omega
  have h8 : ¬ (κ + μ + 8 = 6) := by omega
  have h08 : ¬ ((0 : Nat) = κ + μ + 8) := by omega
  have hκ8 : ¬ (κ = κ + μ + 8) := by omega
  have hμ8 : ¬ (μ = κ + μ + 8) := by omega
  have h68 : ¬ (6 = κ + μ + 8) := by omega
  have h0μ : ¬ ((0 : Nat) = μ) := by omega
  have h00 : ¬ ((0 : Nat) = 6) := by omega
  have hnm : ¬ (6 = μ) := fun hh => h6.2 hh.symm
  have hos := hok.size
  have hbl := hb.len
  generalize hsz' : max o.size (pos + d.length) = size
  have hs1 : size ≤ 70656 := by omega
  have hs2 : pos + d.length ≤ size := by omega
  have hs3 : o.size ≤ size := by omega
  apply enterWr1
  apply R_in
  have hc3 := hq.cell (j := 3) (by omega)
  rw [show o.cell 3 = o.size from rfl] at hc3
  have hlen0 : ∀ w', lenF w' 0 bv = some (.int .i64 d.length) := fun w' => hd.1.lenB w'
  simp (maxSteps := 1000000) (disch := omega) only [↓sy1, sy2, sy3, readOK, sy5, sy6, Nat.reduceEqDiff, ↓reduceIte, sy7, sy8, sy9, sya, oneOf, syb, syc, Nat.reduceAdd, Nat.reduceMul, syd, sye, syf, syg, syh, reduceCtorEq, F36, ha.cell, hc3, hfa.cell, hfb.cell, hlen0]
  refine max_rule (a := o.size) (b := ((pos + d.length : Nat) : Int)) (by simp only [upd_at, Nat.reduceEqDiff, reduceIte, ev_tmp, ev_const, List.map_cons, List.map_nil]) (by simp only [upd_at, Nat.reduceEqDiff, reduceIte, ev_tmp, ev_const, List.map_cons, List.map_nil]; rfl) ?_
  have hmx : (if ((pos + d.length : Nat) : Int) > (o.size : Int) then ((pos + d.length : Nat) : Int) else (o.size : Int)) = ((size : Nat) : Int) := by split <;> omega
  rw [hmx]
  simp (maxSteps := 1000000) (disch := omega) only [↓sy1, sy2, sy3, readOK, sy5, sy6, Nat.reduceEqDiff, ↓reduceIte, sy7, sy8, sy9, sya, oneOf, syb, syc, Nat.reduceAdd, Nat.reduceMul, syd, sye, syf, syg, syh, reduceCtorEq]
  refine callF (resize_spec h hs hq hoq hm hok hb hs1) ?_ ?_
  · rintro w1 ⟨G1, c1, L, hx1, h1, hdd, hn⟩
    exact ⟨rfl, stop_of (hx1.mono hx68) h1 hdd (hn.mono (Nat.le_refl _) (by omega))⟩
  rintro _ w1 ⟨G1, c1, P1, o1, hx1, h1, hq1, hoq1, hr⟩
  have hok1 := hr.ok
  have hdl1 := hok1.data
  rw [hr.sz] at hdl1
  have hp138 := pagesN_le hs1
  have hlen1 := hok1.own_len
  rw [hr.sz] at hlen1
  have hnum1 := hr.mid.num
  have hfl1 := hr.holds.flat
  rw [hr.sz, hdl1] at hfl1
  generalize hL0 : rszB b size ++ List.replicate (512 * pagesN size - size) 0 = L0 at hfl1
  have hL0l : L0.length = 512 * pagesN size := by
    rw [← hL0, List.length_append, rszB_length, List.length_replicate]
    unfold pagesN; omega
  have hps : size ≤ 512 * pagesN size := by unfold pagesN; omega
  have hndd : o1.data.Nodup := by
    have hnd := hr.mid.own.nodup i o1 upF_same
    rw [Opn.own, List.nodup_append] at hnd; exact hnd.1
  simp (maxSteps := 1000000) (disch := omega) only [↓sy1, sy2, sy3, readOK, sy5, sy6, Nat.reduceEqDiff, ↓reduceIte, sy7, sy8, sy9, sya, oneOf, syb, syc, Nat.reduceAdd, Nat.reduceMul, syd, sye, syf, syg, syh, reduceCtorEq]
  refine loop_rule (fun e w' => ∃ (j : Nat) (G' : Gh) (c' : Csh) (bv' : Value), j ≤ d.length ∧ e 0 = .pointer (some ⟨a, 0, none⟩) ∧ e 1 = .pointer (some ⟨q, 0, none⟩) ∧ e 2 = .pointer (some ⟨fa, 0, none⟩) ∧ e 3 = .pointer (some ⟨fb, 0, none⟩) ∧
      Ext (fun x => x = μ ∨ x = 6 ∨ x = κ + μ + 8) G w G' w' ∧ MapAt G' κ μ w' m p lq came c' P1 I ∧ StoreAt G' w' s m ∧ BoxAt G' w' a 0 (.pointer (some ⟨s, 0, none⟩)) ∧ OpnAt w' q o1 ∧ (G'.own q = 6 ∧ G'.fix q = 0) ∧ BoxAt G' w' fa (κ + μ + 8) (.int .i64 ((pos + j : Nat) : Int)) ∧ BoxAt G' w' fb (κ + μ + 8) bv' ∧ RowO (fun x => x = μ ∨ x = 6 ∨ x = κ + μ + 8) G' w' bv' (d.drop j) ∧
      FMid c' P1 I F B i o1 ∧ o1.data.flatMap c'.page = patch L0 pos (d.take j) ∧ Dty (2 :: o1.own) c c') (fun _ w' => lenIn w' fb)
    ⟨0, G1, c1, bv, by omega, by simp [upd, updO, ev], by simp [upd, updO, ev], by simp [upd, updO, ev], by simp [upd, updO, ev], hx1.mono hx68, h1, hs.ext hx1 h06, ha.ext hx1 h06, hq1, hoq1, hfa.ext hx1 h86, hfb.ext hx1 h86, hd.ext hx1 hx68, hr.mid, by rw [hfl1]; simp [patch], hr.dty⟩ ?_
  rintro e w2 ⟨j, G2, c2, bv2, hj, e0, e1, e2, e3, hx2, h2, hs2, ha2, hq2, hoq2, hfa2, hfb2, hd2, hm2, hfl2, hdt2⟩
  have hlend : (d.drop j).length = d.length - j := List.length_drop
  have hlen2 : ∀ w', lenF w' 0 bv2 = some (.int .i64 ((d.length - j : Nat) : Int)) := fun w' => by rw [hd2.1.lenB w', hlend]
  obtain ⟨a2, cp2, hbv2⟩ := Has.slice hd2.1
  rw [bs_length, hlend] at hbv2
  by_cases hlt : j < d.length
  · have hkk : (pos + j) / 512 < o1.data.length := by rw [hdl1]; unfold pagesN; omega
    have hsp := slot_page (o := o1) (k := (pos + j) / 512) hkk
    have hcell := hq2.cell (j := slotJ ((pos + j) / 512)) (slotJ_lt (by omega))
    generalize hn : o1.cell (slotJ ((pos + j) / 512)) = n at hsp hcell
    obtain ⟨g1, g2, g3, g4⟩ := hm2.pg hsp.2
    have hquo : ((pos + j : Nat) : Int).tdiv 512 = (((pos + j) / 512 : Nat) : Int) := rfl
    have hrem : ((pos + j : Nat) : Int).tmod 512 = (((pos + j) % 512 : Nat) : Int) := rfl
    simp (maxSteps := 1000000) (disch := omega) only [↓sy1, sy2, sy3, readOK, sy5, sy6, Nat.reduceEqDiff, ↓reduceIte, sy7, sy8, sy9, sya, oneOf, syb, syc, Nat.reduceAdd, Nat.reduceMul, syd, sye, syf, syg, syh, reduceCtorEq, F36_L0, e0, e1, e2, e3, hfb2.cell, hlen2, show (0 : Int) < ((d.length - j : Nat) : Int) from by omega, decide_true, hfa2.cell, hquo]
    refine call0 (slot_spec (q := q) (j := (pos + j) / 512) (by omega)) ?_
    rintro _ w3 ⟨rfl, hw3⟩
    subst w3
    simp (maxSteps := 1000000) (disch := omega) only [↓sy1, sy2, sy3, readOK, sy5, sy6, Nat.reduceEqDiff, ↓reduceIte, sy7, sy8, sy9, sya, oneOf, syb, syc, Nat.reduceAdd, Nat.reduceMul, syd, sye, syf, syg, syh, reduceCtorEq, hcell, ha2.cell, hs2.cell, e0, e1, e2, e3]
    refine call0 (mcache_spec h2.1) ?_
    rintro _ w3 ⟨rfl, hw3⟩
    subst w3
    simp (maxSteps := 1000000) (disch := omega) only [↓sy1, sy2, sy3, readOK, sy5, sy6, Nat.reduceEqDiff, ↓reduceIte, sy7, sy8, sy9, sya, oneOf, syb, syc, Nat.reduceAdd, Nat.reduceMul, syd, sye, syf, syg, syh, reduceCtorEq]
    refine call0 (pread_spec h2.1 (n := n) g3) ?_
    rintro _ w3 ⟨g, cap, G3, rfl, hcap, hgw, hrow, hog, h3, hx3⟩
    simp (maxSteps := 1000000) (disch := omega) only [↓sy1, sy2, sy3, readOK, sy5, sy6, Nat.reduceEqDiff, ↓reduceIte, sy7, sy8, sy9, sya, oneOf, syb, syc, Nat.reduceAdd, Nat.reduceMul, syd, sye, syf, syg, syh, reduceCtorEq, e0, e1, e2, e3]
    refine draw36_0 (fun _ => False) ?_
    have hgd : Grow w3 w3.drew := (Keep.refl _ _).drew
    have hpl := h2.1.cache.oks.plen g3
    have hx3' := hx3.trans (.grow (κ := fun x => x = μ) (G := G3) hgd)
    have hq4 : OpnAt w3.drew q o1 := hx3'.heap hq2 (by rw [hoq2.1]; exact hnm)
    have hoq4 : G3.own q = 6 ∧ G3.fix q = 0 := by rw [hx3.own _ hq2.lt, hx3.fixe _ hq2.lt (by rw [hoq2.1]; exact hnm)]; exact hoq2
    have hs4 := hs2.ext hx3' h0μ
    have ha4 := ha2.ext hx3' h0μ
    have hfa4 := hfa2.ext hx3' h8μ
    have hfb4 := hfb2.ext hx3' h8μ
    have hd4 := hd2.ext hx3' hx6
    have hrow4 := hrow.keep hgd id
    have h4 := h3.grow hgd
    have hgq : q ≠ g := by have := hq2.lt; omega
    have hga : fa ≠ g := by have := hfa2.lt; omega
    have hgb : fb ≠ g := by have := hfb2.lt; omega
    have hgaa : a ≠ g := by have := ha2.lt; omega
    generalize w3.drew = w4 at hgd hx3' hq4 hs4 ha4 hfa4 hfb4 hd4 hrow4 h4 ⊢
    have hslc := slcV_from (g := g) (o := 0) (len := 512) (cap := cap) (kx := .i64) (lo := (((pos + j) % 512 : Nat) : Int)) (a := (pos + j) % 512) rfl (by omega) hcap
    simp (maxSteps := 1000000) (disch := omega) only [↓sy1, sy2, sy3, readOK, sy5, sy6, Nat.reduceEqDiff, ↓reduceIte, sy7, sy8, sy9, sya, oneOf, syb, syc, Nat.reduceAdd, Nat.reduceMul, syd, sye, syf, syg, syh, reduceCtorEq, PL36_0, e0, e1, e2, e3, hfa4.cell, hfb4.cell, hrem, hslc, Nat.zero_add]
    refine copyB_rule (b := d.drop j) (by simp only [upd_at, Nat.reduceEqDiff, reduceIte, ev_tmp, ev_const, List.map_cons, List.map_nil]; rfl) hrow4 (by omega) (by simp only [upd_at, Nat.reduceEqDiff, reduceIte, ev_tmp, ev_const, List.map_cons, List.map_nil]; exact hd4.1) (by intro hh; rw [hh] at hlend; simp at hlend; omega) ?_
    intro w5 hk5 hrow5
    generalize hy : (d.drop j).take (512 - (pos + j) % 512) = y at hrow5
    have hyl : y.length = min (512 - (pos + j) % 512) (d.length - j) := by rw [← hy, List.length_take, hlend]
    have hy0 : 0 < y.length := by omega
    have hxs5 : Ext (fun x => x = 6) G3 w4 G3 w5 := .on0 hk5 hog.1 hog.2
    have hq5 := hq4.keep hk5 hgq
    have hs5 := hs4.ext hxs5 h00
    have ha5 := ha4.ext hxs5 h00
    have hfa5 := hfa4.ext hxs5 h8
    have hfb5 := hfb4.ext hxs5 h8
    have hd5 := hd4.ext hxs5 hx6'
    have h5 : MapC G3 κ μ w5 m p lq came c2 I.length := h4.ext hxs5 h6.1 h6.2 h00
    have hx5 := (hx2.trans (hx3'.mono hx6)).trans (hxs5.mono hx6')
    have hptl := patch_length (l := c2.page n) (o := (pos + j) % 512) (b := y) (by omega)
    rw [hpl] at hptl
    have hbr : HasB w5 (.slice (some ⟨g, 0, none⟩) 512 cap) (patch (c2.page n) ((pos + j) % 512) y) := by
      have := hrow5.part (o := 0) (m := 512) (c := cap) (by omega) hcap
      rw [List.drop_zero, List.take_of_length_le (by omega)] at this
      exact this
    simp (maxSteps := 1000000) (disch := omega) only [↓sy1, sy2, sy3, readOK, sy5, sy6, Nat.reduceEqDiff, ↓reduceIte, sy7, sy8, sy9, sya, oneOf, syb, syc, Nat.reduceAdd, Nat.reduceMul, syd, sye, syf, syg, syh, reduceCtorEq, e0, e1, e2, e3, ha5.cell]
    refine callF (iwrite_spec h5 hs5 hbr hptl) ?_ ?_
    · rintro w6 ⟨hw, G6, hx6', h6'⟩
      have := hdt2.full (n := n) (by simp [hsp.2]) g3 hw
      rw [List.length_cons] at this
      exact ⟨rfl, stop_of (hx5.trans (hx6'.mono hx6)) h6' hdt2 (.inr ⟨hdt2.fullN (n := n) g3 hw, by omega⟩)⟩
    rintro _ w6 ⟨hw, G6, hxm6, h6m⟩
    have hq6 : OpnAt w6 q o1 := hxm6.heap hq5 (by rw [hoq4.1]; exact hnm)
    have hoq6 : G6.own q = 6 ∧ G6.fix q = 0 := by rw [hxm6.own _ hq5.lt, hxm6.fixe _ hq5.lt (by rw [hoq4.1]; exact hnm)]; exact hoq4
    have hs6 := hs5.ext hxm6 h0μ
    have ha6 := ha5.ext hxm6 h0μ
    have hfa6 := hfa5.ext hxm6 h8μ
    have hfb6 := hfb5.ext hxm6 h8μ
    have hd6 := hd5.ext hxm6 hx6
    have hmid6 := hm2.write (b := patch (c2.page n) ((pos + j) % 512) y) hsp.2
    have hmap6 : MapAt G6 κ μ w6 m p lq came (c2.write n (patch (c2.page n) ((pos + j) % 512) y)) P1 I := ⟨h6m, hmid6.alc⟩
    obtain ⟨w7, st7, hfa7, hx7, hk7⟩ := hfa6.store (u := .int .i64 ((pos + (j + y.length) : Nat) : Int)) rfl
    have hfb7 := hfb6.keep hk7 (hfb6.ne_box hfa6 (by rw [hbv2]; exact fun hh => by cases hh))
    have hq7 := hq6.keep hk7 (hfa6.ne_opn hq6)
    have hd7 := hd6.ext hx7 hx8
    obtain ⟨bv8, hs8, hd8⟩ := hd7.slcFrom (m := y.length) (by rw [hlend]; omega)
    rw [List.drop_drop] at hd8
    have hbv8 : isCell bv8 = true := hd8.1.isCell
    obtain ⟨w8, st8, hfb8, hx8', hk8⟩ := hfb7.store (u := bv8) hbv8
    have hfa8 := hfa7.keep hk8 (fun hh => hfb7.ne_box hfa7 (by rw [hbv2]; exact fun hh => by cases hh) hh.symm)
    have hq8 := hq7.keep hk8 (hfb7.ne_opn hq7)
    have hd9 := hd8.ext hx8' hx8
    have hadd : ((pos + j : Nat) : Int) + ((y.length : Nat) : Int) = ((pos + (j + y.length) : Nat) : Int) := by omega
    simp (maxSteps := 1000000) (disch := omega) only [↓sy1, sy2, sy3, readOK, sy5, sy6, Nat.reduceEqDiff, ↓reduceIte, sy7, sy8, sy9, sya, oneOf, syb, syc, Nat.reduceAdd, Nat.reduceMul, syd, sye, syf, syg, syh, reduceCtorEq, e0, e1, e2, e3, hfa6.cell, hadd, st7, hfb7.cell, hs8, st8]
    obtain ⟨a8, cp8, hbv8'⟩ := Has.slice hd9.1
    have hlt8 : lenIn w8 fb < lenIn w2 fb := by
      rw [hbv8', bs_length, List.length_drop] at hfb8
      rw [hbv2] at hfb2
      rw [hfb8.lenIn, hfb2.lenIn]; omega
    refine R_out ⟨⟨j + y.length, G6, _, bv8, by omega, ((hx5.trans (hxm6.mono hx6)).trans (hx7.mono hx8)).trans (hx8'.mono hx8), (hmap6.ext hx7 hκ8 hμ8 h08).ext hx8' hκ8 hμ8 h08, (hs6.ext hx7 h08).ext hx8' h08, (ha6.ext hx7 h08).ext hx8' h08, hq8, hoq6, hfa8, hfb8, hd9, hmid6, ?_, hdt2.trans (.write (by simp [hsp.2]))⟩, hlt8⟩
    have hpd : ∀ x ∈ o1.data, (c2.page x).length = 512 := fun x hx => h2.1.cache.oks.plen (hm2.pg (by simp [Opn.own, hx])).2.2.1
    have hw := flat_write (f := c2.page) hpd hptl hndd hsp.1
    have hpw : (c2.write n (patch (c2.page n) ((pos + j) % 512) y)).page = fun x => if x = n then patch (c2.page n) ((pos + j) % 512) y else c2.page x := by
      funext x; rw [Csh.write_page]
    have hfl := flat_length hpd
    have hfp := flat_part hpd hsp.1
    have htk : (d.take j).length = j := by rw [List.length_take]; omega
    rw [hpw, hw, ← hfp, patch_page (by rw [hfl]; omega) (by omega), hfl2, show 512 * ((pos + j) / 512) + (pos + j) % 512 = pos + (d.take j).length from by rw [htk]; omega]
    rw [patch_cont (by rw [htk]; omega)]
    rw [← hy, take_chunk]
  have hje : j = d.length := by omega
  subst hje
  rw [List.take_length] at hfl2
  have hwr : patch L0 pos d = wrB b pos d ++ List.replicate (512 * pagesN size - size) 0 := by
    rw [← hL0, patch_left (by rw [rszB_length]; omega), wrB, hbl, hsz']
  have hwl : (wrB b pos d).length = size := by rw [wrB_length, hbl, hsz']
  simp (maxSteps := 1000000) (disch := omega) only [↓sy1, sy2, sy3, readOK, sy5, sy6, Nat.reduceEqDiff, ↓reduceIte, sy7, sy8, sy9, sya, oneOf, syb, syc, Nat.reduceAdd, Nat.reduceMul, syd, sye, syf, syg, syh, reduceCtorEq, F36_L0, e0, e1, e2, e3, hfb2.cell, hlen2, show ¬ ((0 : Int) < ((d.length - d.length : Nat) : Int)) from by omega, decide_false, ha2.cell, hq2.load]
  refine callF (fsave_spec (b := wrB b pos d) h2 hs2 hm2 hok1 ⟨by rw [hfl2, hwr, hdl1, hr.sz], by rw [hwl, hr.sz]⟩) ?_ ?_
  · rintro w3 ⟨G3, c3, hx3, h3, hdd, hc1, hc2⟩
    have hl := hdt2.len
    have hN := hdt2.N
    have hC := hdt2.cap
    rw [List.length_cons] at hl
    exact ⟨rfl, stop_of (hx2.trans (hx3.mono hx6)) h3 (hdt2.app hdd) (.inr ⟨by omega, by omega⟩)⟩
  rintro _ w3 ⟨G3, hx3, h3, hf3⟩
  simp (maxSteps := 1000000) (disch := omega) only [↓sy1, sy2, sy3, readOK, sy5, sy6, Nat.reduceEqDiff, ↓reduceIte, sy7, sy8, sy9, sya, oneOf, syb, syc, Nat.reduceAdd, Nat.reduceMul, syd, sye, syf, syg, syh, reduceCtorEq]
  refine R_out ⟨G3, _, P1, o1, _, hx2.trans (hx3.mono hx6), h3, hf3, rfl, hr.sz, hr.kind, hr.mode, hr.links, hr.free, ?_⟩
  rw [← hnum1.1]
  by_cases hi : o1.ind = 0
  · exact (hdt2.mono (fun x hx => by rcases List.mem_cons.1 hx with rfl | hx <;> simp [*])).trans ((c2.save_dty0 hi).mono (by simp))
  · exact (hdt2.mono (fun x hx => by rcases List.mem_cons.1 hx with rfl | hx <;> simp [*])).trans ((c2.save_dty o1).mono (fun x hx => by
      simp at hx
      rcases hx with rfl | rfl
      · simp
      · simp [Opn.own, hi]))
end
end Go.Proofs.YtienelpepioggaaGreat

/- try, upon inodes; set, resize, drop, write, make. -/
namespace Go.Proofs.YtienelpepioggaaGreat
open Go
set_option linter.unusedSimpArgs false
open Go.RowKit (intOf)
/-- What a change of an inode may write. -/
abbrev KW (κ μ : Nat) : Nat → Prop := fun x => x = μ ∨ x = 6 ∨ x = κ + μ + 8
section
variable {G : Gh} {κ μ m p lq came s : Nat} {w : World} {c : Csh} {P I : List Bool} {F : Nat → Option Opn} {B : Nat → List UInt8}
abbrev XT := Csh → List Bool → List Bool → (Nat → Option Opn) → (Nat → List UInt8) → Prop
/-- What try answers, and leaves. -/
def TryR (G : Gh) (κ μ : Nat) (w : World) (s m p lq came k : Nat) (c : Csh) (free want most : Nat) (X : XT) (Z Zf : Gh → World → Prop) (v : Value) : Prop :=
  (v = .int .i64 0 ∧ ∃ c' P' I' F' B', Ino G κ μ w s m p lq came c' P' I' F' B' ∧ Near c c' ∧ I'.length = k ∧ X c' P' I' F' B' ∧ Z G w) ∨ (v = .int .i64 7 ∧ Back G κ μ w s m p lq came k c ∧ NoRoom c free want most ∧ Zf G w)
theorem tryI {f free want most : Nat} {caps : Array Value} {X : XT} {Z Zf : Gh → World → Prop} (h : Ino G κ μ w s m p lq came c P I F B) (hf : callable Tryz.prog f = true)
    (hZ : ∀ G1 w1 w', Z G1 w1 → Ext (fun x => x = κ + μ + 7) G1 w1 G1 w' → Z G1 w')
    (hZf : ∀ G1 w1 w' o, o = μ ∨ o = κ + μ + 7 → Zf G1 w1 → Ext (fun x => x = o) G1 w1 G1 w' → Zf G1 w')
    (hc : ∀ G0, Ext0 G w G0 (tryW w s) → Ino G0 κ μ (tryW w s) s m p lq came c P I F B → Calls Tryz.prog f caps (tryW w s) (RetF (fun _ w1 => ∃ G1 c' P' I' F' B', Ext (KW κ μ) G0 (tryW w s) G1 w1 ∧ MapAt G1 κ μ w1 m p lq came c' P' I' ∧ FsOk c' P' I' F' B' ∧ Near c c' ∧ I'.length = I.length ∧ X c' P' I' F' B' ∧ Z G1 w1)
      (fun w1 => StopZ (KW κ μ) G0 κ μ (tryW w s) m p lq came I.length c free want most Zf w1))) :
    Calls Tryz.prog 31 #[.pointer (some ⟨s, 0, none⟩), .func (.func f) #[] caps] w (Ret fun v w' => ∃ G', Ext (KW κ μ) G w G' w' ∧ TryR G' κ μ w' s m p lq came I.length c free want most X Z Zf v) := by
  obtain ⟨hne1, hne2, hne3⟩ := h.map.1.cache.ne
  have h6 := h.map.1.ne
  have hg : Grow w (tryW w s) := ((Keep.refl _ _).alloc _).alloc _
  have hx0 : Ext0 G w (G.upto w.heap.size (fun _ => κ + μ + 7) (fun _ => 0)) (tryW w s) := .upto hg _ _
  have hoa := upto_own (G := G) (o := κ + μ + 7) (f := 0) (Nat.le_refl w.heap.size)
  have hob := upto_own (G := G) (o := κ + μ + 7) (f := 0) (Nat.le_succ w.heap.size)
  have hszT : w.heap.size + 1 < (tryW w s).heap.size := by simp [tryW]
  have h0 := h.ext hx0 id id id
  have hos : (G.upto w.heap.size (fun _ => κ + μ + 7) (fun _ => 0)).own s = 0 := h0.sto.2
  generalize (G.upto w.heap.size (fun _ => κ + μ + 7) (fun _ => 0)) = G0 at hx0 hoa hob h0 hos
  have hK0 : ¬ KW κ μ 0 := by unfold KW; omega
  have hKν : ¬ KW κ μ (κ + μ + 7) := by unfold KW; omega
  have hKμ : ∀ x, x = μ → KW κ μ x := fun x hh => .inl hh
  refine Ret.mono (try_spec (κ := κ) (μ := μ) (m := m) (p := p) (lq := lq) (came := came) (k := I.length) (K := KW κ μ) (G0 := G0)
    (Q := fun w1 => ∃ G1 c' P' I' F' B', Ext (KW κ μ) G0 (tryW w s) G1 w1 ∧ MapAt G1 κ μ w1 m p lq came c' P' I' ∧ FsOk c' P' I' F' B' ∧ Near c c' ∧ I'.length = I.length ∧ X c' P' I' F' B' ∧ Z G1 w1)
    (B := fun w1 => ∃ G1, Ext (KW κ μ) G0 (tryW w s) G1 w1 ∧ Back G1 κ μ w1 s m p lq came I.length c ∧ NoRoom c free want most ∧ Zf G1 w1)
    hf hK0 hne2 h.sto.cell hos (by rw [hoa.1]; exact hKν) ⟨by rw [hob.1]; exact hKν, by rw [hob.1]; omega⟩ (RetF.mono (hc G0 hx0 h0) ?_ ?_)) ?_
  · rintro v w1 ⟨G1, c', P', I', F', B', hx, hm, hfs, hn, hi, hX, hz⟩
    exact ⟨G1, hx, G1, c', P', I', F', B', hx, hm, hfs, hn, hi, hX, hz⟩
  · rintro w1 ⟨G1, c1, L, hx, hm, hd, hn, hz⟩
    refine ⟨G1, c1, hx, hm, fun w2 hm2 hx2 => ⟨G1, hx.trans (hx2.mono hKμ), ?_, hn, hZf _ _ _ _ (.inl rfl) hz hx2⟩⟩
    exact h0.back (hx.trans (hx2.mono hKμ)) hK0 hm2 hd.near
  · rintro v w' ⟨w1, hk, hR⟩
    rcases hR with ⟨rfl, G1, c', P', I', F', B', hx, hm, hfs, hn, hi, hX, hz⟩ | ⟨rfl, G1, hx, hb, hn, hz⟩
    · have ho1 : G1.own (w.heap.size + 1) = κ + μ + 7 ∧ G1.fix (w.heap.size + 1) = 0 := by rw [hx.own _ hszT, hx.fixe _ hszT (by rw [hob.1]; exact hKν)]; exact hob
      have hxs : Ext (fun x => x = κ + μ + 7) G1 w1 G1 w' := .on0 hk ho1.1 ho1.2
      have hsto := h0.sto.ext hx hK0
      refine ⟨G1, ((hx0.mono (fun _ h => h.elim)).trans hx).then hk (by omega), .inl ⟨rfl, c', P', I', F', B', ⟨hm.ext hxs (by omega) (by omega) (by omega), hsto.ext hxs (by omega), hfs, by rw [hi]; exact h.old.near hn⟩, hn, hi, hX, hZ _ _ _ hz hxs⟩⟩
    · have ho1 : G1.own (w.heap.size + 1) = κ + μ + 7 ∧ G1.fix (w.heap.size + 1) = 0 := by rw [hx.own _ hszT, hx.fixe _ hszT (by rw [hob.1]; exact hKν)]; exact hob
      have hxs : Ext (fun x => x = κ + μ + 7) G1 w1 G1 w' := .on0 hk ho1.1 ho1.2
      obtain ⟨c', P', I', F', B', h1, h2, h3⟩ := hb
      exact ⟨G1, ((hx0.mono (fun _ h => h.elim)).trans hx).then hk (by omega), .inr ⟨rfl, ⟨c', P', I', F', B', h1.ext hxs (by omega) (by omega) (by omega), h2, h3⟩, hn, hZf _ _ _ _ (.inr rfl) hz hxs⟩⟩
end
end Go.Proofs.YtienelpepioggaaGreat

/- set, resize, drop, get: the whole functions. -/
namespace Go.Proofs.YtienelpepioggaaGreat
open Go
set_option linter.unusedSimpArgs false
open Go.RowKit (intOf)
theorem look_cases (F : Nat → Option Opn) (k : Nat) (i : Int) : (lookC F k i ≠ 0 ∧ lookO F k i = Opn.zero) ∨ (lookC F k i = 0 ∧ ∃ (j : Nat) (o : Opn), i = j ∧ 1 ≤ j ∧ j < k ∧ F j = some o ∧ lookO F k i = o) := by
  unfold lookC lookO
  by_cases h : i < 1 ∨ (k : Int) ≤ i
  · rw [if_pos h, if_pos h]; exact .inl ⟨by omega, rfl⟩
  · rw [if_neg h, if_neg h]
    cases hF : F i.toNat with
    | none => exact .inl ⟨by simp, rfl⟩
    | some o => exact .inr ⟨by simp, i.toNat, o, by omega, by omega, by omega, hF, rfl⟩
/-- An inode is opened. -/
theorem openO (G : Gh) (w : World) (o : Opn) : ∃ w' G', stnF (w.alloc (.cells (Value.agg (Array.replicate 144 (.int .i64 0))).cells 95)) 144 (.pointer (some ⟨w.heap.size, 0, none⟩)) (.agg o.cells.toArray) = some (undef, w') ∧ OpnAt w' w.heap.size o ∧ (G'.own w.heap.size = 6 ∧ G'.fix w.heap.size = 0) ∧ Ext0 G w G' w' := by
  obtain ⟨w', hst, hq, hk⟩ := (OpnAt.new w).stn o
  have hg : Grow w (w.alloc (.cells (Value.agg (Array.replicate 144 (.int .i64 0))).cells 95)) := (Keep.refl _ _).alloc _
  exact ⟨w', G.upto w.heap.size (fun _ => 6) (fun _ => 0), hst, hq, upto_own (Nat.le_refl _), .upto (hg.then hk (fun b hb hh => by omega)) _ _⟩
/-- A value is boxed. -/
theorem boxO (G : Gh) (w : World) (v : Value) (t : TypeId) (o : Nat) (hv : isCell v = true) : ∃ G', BoxAt G' (w.alloc (.cells v.cells t)) w.heap.size o v ∧ Ext0 G w G' (w.alloc (.cells v.cells t)) := by
  have hg : Grow w (w.alloc (.cells v.cells t)) := (Keep.refl _ _).alloc _
  have h := upto_own (G := G) (o := o) (f := 0) (Nat.le_refl w.heap.size)
  refine ⟨G.upto w.heap.size (fun _ => o) (fun _ => 0), .of (t := t) ?_ h.1 h.2, .upto hg _ _⟩
  rw [isCell_cells hv]; exact heap_alloc_new _ _
section
variable {G : Gh} {κ μ m p lq came s : Nat} {w : World} {c : Csh} {P I : List Bool} {F : Nat → Option Opn} {B : Nat → List UInt8}
theorem Ino.load (h : Ino G κ μ w s m p lq came c P I F B) {i : Int} :
    Calls Tryz.prog 35 #[.pointer (some ⟨s, 0, none⟩), .int .i64 i] w (Ret fun v w' => v = .tuple #[.agg (lookO F I.length i).cells.toArray, .int .i64 (lookC F I.length i)] ∧ ∃ G', Ext (fun x => x = μ) G w G' w' ∧ Ino G' κ μ w' s m p lq came c P I F B) :=
  Ret.mono (load_spec h.map h.sto h.fs) fun _ _ ⟨h1, G', hx, hm⟩ => ⟨h1, G', hx, hm, h.sto.ext hx (fun hh => h.map.1.cache.ne.2.1 hh.symm), h.fs, h.old⟩
theorem Ino.file (h : Ino G κ μ w s m p lq came c P I F B) {j : Nat} {o : Opn} (hF : F j = some o) : FMid c P I F B j o ∧ o.Ok ∧ Holds c o (B j) := ⟨h.fs.mid hF, h.fs.ok j o hF, (h.fs.recs j o hF).bytes, (h.fs.recs j o hF).len⟩
end
end Go.Proofs.YtienelpepioggaaGreat

/- resize, drop, write, make, get: the whole functions. -/
namespace Go.Proofs.YtienelpepioggaaGreat
open Go
set_option linter.unusedSimpArgs false
open Go.RowKit (intOf)
section
variable {G : Gh} {κ μ m p lq came s : Nat} {w : World} {c : Csh} {P I : List Bool} {F : Nat → Option Opn} {B : Nat → List UInt8}
/-- What Drop answers, and leaves. -/
def DropR (G : Gh) (κ μ : Nat) (w : World) (s m p lq came : Nat) (c : Csh) (P I : List Bool) (F : Nat → Option Opn) (B : Nat → List UInt8) (i : Int) (v : Value) : Prop :=
  (lookC F I.length i ≠ 0 ∧ v = .int .i64 (lookC F I.length i) ∧ Ino G κ μ w s m p lq came c P I F B) ∨
  (lookC F I.length i = 0 ∧ ∃ (j : Nat) (o : Opn), i = j ∧ F j = some o ∧ TryR G κ μ w s m p lq came I.length c 0 0 3 (fun c' P' I' F' B' => I' = I.set j false ∧ F' = upF F j none ∧ B' = B ∧ freeN P' = freeN P + needN o.size ∧ ∃ L, L.length ≤ 3 ∧ Dty L c c') (fun _ _ => True) (fun _ _ => True) v)
set_option maxRecDepth 20000 in
set_option maxHeartbeats 2000000 in
theorem idrop_spec (h : Ino G κ μ w s m p lq came c P I F B) {i : Int} :
    Calls Tryz.prog 14 #[.pointer (some ⟨s, 0, none⟩), .int .i64 i] w (Ret fun v w' => ∃ G', Ext (KW κ μ) G w G' w' ∧ DropR G' κ μ w' s m p lq came c P I F B i v) := by
  obtain ⟨hne1, hne2, hne3⟩ := h.map.1.cache.ne
  have h6 := h.map.1.ne
  have hK0 : ¬ KW κ μ 0 := by unfold KW; omega
  have h0μ : ¬ ((0 : Nat) = μ) := by omega
  have hk6 : ∀ x, x = μ ∨ x = 6 → KW κ μ x := fun x hh => hh.elim .inl (fun hh => .inr (.inl hh))
  apply enter14
  apply R_in
  obtain ⟨G1, hb1, hx1⟩ := boxO G w (.pointer (some ⟨s, 0, none⟩)) 36 0 rfl
  simp (maxSteps := 1000000) (disch := omega) only [↓sy1, sy2, sy3, readOK, sy5, sy6, Nat.reduceEqDiff, ↓reduceIte, sy7, sy8, sy9, sya, oneOf, syb, syc, Nat.reduceAdd, Nat.reduceMul, syd, sye, syf, syg, syh, reduceCtorEq, F14]
  generalize hw1 : w.alloc (.cells (Value.pointer (some ⟨s, 0, none⟩)).cells 36) = w1 at hb1 hx1 ⊢
  obtain ⟨G2, hn2, hx2⟩ := boxO G1 w1 (.int .i64 i) 3 0 rfl
  generalize hw2 : w1.alloc (.cells (Value.int .i64 i).cells 3) = w2 at hn2 hx2 ⊢
  have hb2 := hb1.ext hx2 id
  have h2 := (h.ext hx1 id id id).ext hx2 id id id
  simp (maxSteps := 1000000) (disch := omega) only [↓sy1, sy2, sy3, readOK, sy5, sy6, Nat.reduceEqDiff, ↓reduceIte, sy7, sy8, sy9, sya, oneOf, syb, syc, Nat.reduceAdd, Nat.reduceMul, syd, sye, syf, syg, syh, reduceCtorEq, hb2.cell, hn2.cell]
  refine call0 (h2.load (i := i)) ?_
  rintro _ w3 ⟨rfl, G3, hx3, h3⟩
  have hb3 := hb2.ext hx3 h0μ
  have hn3 := hn2.ext hx3 h0μ
  obtain ⟨w4, G4, st4, hq4, hoq4, hx4⟩ := openO G3 w3 (lookO F I.length i)
  have h4 := h3.ext hx4 id id id
  have hb4 := hb3.ext hx4 id
  have hn4 := hn3.ext hx4 id
  have hx04 : Ext (KW κ μ) G w G4 w4 := (((hx1.mono (fun _ h => h.elim)).trans (hx2.mono (fun _ h => h.elim))).trans (hx3.mono (fun x hh => .inl hh))).trans (hx4.mono (fun _ h => h.elim))
  rcases look_cases F I.length i with ⟨hl, hz⟩ | ⟨hl, j, o, rfl, hj1, hjk, hF, ho⟩
  · simp (maxSteps := 1000000) (disch := omega) only [↓sy1, sy2, sy3, readOK, sy5, sy6, Nat.reduceEqDiff, ↓reduceIte, sy7, sy8, sy9, sya, oneOf, syb, syc, Nat.reduceAdd, Nat.reduceMul, syd, sye, syf, syg, syh, reduceCtorEq, st4, hl, decide_false, not_false_eq_true, decide_true]
    exact R_out ⟨G4, hx04, .inl ⟨hl, rfl, h4⟩⟩
  rw [ho] at st4 hq4
  rw [hl, ho]
  obtain ⟨hmid, hok, hho⟩ := h4.file hF
  simp (maxSteps := 1000000) (disch := omega) only [↓sy1, sy2, sy3, readOK, sy5, sy6, Nat.reduceEqDiff, ↓reduceIte, sy7, sy8, sy9, sya, oneOf, syb, syc, Nat.reduceAdd, Nat.reduceMul, syd, sye, syf, syg, syh, reduceCtorEq, st4, decide_true, not_true_eq_false, decide_false, hb4.cell]
  refine call0 (tryI (free := 0) (want := 0) (most := 3) (X := fun c' P' I' F' B' => I' = I.set j false ∧ F' = upF F j none ∧ B' = B ∧ freeN P' = freeN P + needN o.size ∧ ∃ L, L.length ≤ 3 ∧ Dty L c c') (Z := fun _ _ => True) (Zf := fun _ _ => True) h4 (by kernel_rfl) (fun _ _ _ _ _ => trivial) (fun _ _ _ _ _ _ _ => trivial) ?_) ?_
  · intro G0 hx0 h0
    refine RetF.mono (drop1_spec h0.map h0.sto (hb4.ext hx0 id) (hn4.ext hx0 id) (hq4.keep hx0.growG id) (by rw [hx0.own _ hq4.lt, hx0.fixe _ hq4.lt id]; exact hoq4) hmid hok hho) ?_ ?_
    · rintro _ w7 ⟨G7, c7, P7, hx7, h7, hf7, hfr, L, hL, hd7⟩
      exact ⟨G7, c7, P7, _, _, _, hx7.mono hk6, h7, hf7, hd7.near, by simp, ⟨rfl, rfl, rfl, hfr, L, hL, hd7⟩, trivial⟩
    · intro w7 hS
      exact hS.z hk6
  rintro v w7 ⟨G7, hx7, hR⟩
  simp (maxSteps := 1000000) (disch := omega) only [↓sy1, sy2, sy3, readOK, sy5, sy6, Nat.reduceEqDiff, ↓reduceIte, sy7, sy8, sy9, sya, oneOf, syb, syc, Nat.reduceAdd, Nat.reduceMul, syd, sye, syf, syg, syh, reduceCtorEq]
  exact R_out ⟨G7, hx04.trans hx7, .inr ⟨hl, j, o, rfl, hF, hR⟩⟩
/-- What Write's errors are. -/
def wrC (F : Nat → Option Opn) (k : Nat) (i pos : Int) (n : Nat) : Int := if lookC F k i ≠ 0 then lookC F k i else if pos < 0 then 2 else if 70656 < pos ∨ 70656 - pos < n then 6 else 0
def WriteR (G : Gh) (κ μ : Nat) (w : World) (s m p lq came : Nat) (c : Csh) (P I : List Bool) (F : Nat → Option Opn) (B : Nat → List UInt8) (i pos : Int) (d : List UInt8) (v : Value) : Prop :=
  (wrC F I.length i pos d.length ≠ 0 ∧ v = .int .i64 (wrC F I.length i pos d.length) ∧ Ino G κ μ w s m p lq came c P I F B) ∨
  (wrC F I.length i pos d.length = 0 ∧ d = [] ∧ v = .int .i64 0 ∧ Ino G κ μ w s m p lq came c P I F B) ∨
  (wrC F I.length i pos d.length = 0 ∧ d ≠ [] ∧ ∃ (j : Nat) (o : Opn) (n : Nat), i = j ∧ pos = n ∧ F j = some o ∧ TryR G κ μ w s m p lq came I.length c (freeN P + needN o.size) (needN (max o.size (n + d.length))) (3 + needN (max o.size (n + d.length))) (fun c' P' I' F' B' => I' = I ∧ ∃ o', F' = upF F j (some o') ∧ B' = upB B j (wrB (B j) n d) ∧ o'.size = max o.size (n + d.length) ∧ o'.kind = o.kind ∧ o'.mode = o.mode ∧ o'.links = o.links ∧ freeN P' + needN (max o.size (n + d.length)) = freeN P + needN o.size ∧ ∃ L, L.length ≤ 2 + needN (max o.size (n + d.length)) ∧ Dty L c c') (fun _ _ => True) (fun _ _ => True) v)
set_option maxRecDepth 20000 in
set_option maxHeartbeats 2000000 in
theorem iwrite_file_spec (h : Ino G κ μ w s m p lq came c P I F B) {i pos : Int} {bv : Value} {d : List UInt8} (hd : RowO (KW κ μ) G w bv d) (hdl : d.length ≤ 1000000000) (hpos : -9223372036854775808 ≤ pos ∧ pos ≤ 9223372036854775807) :
    Calls Tryz.prog 12 #[.pointer (some ⟨s, 0, none⟩), .int .i64 i, .int .i64 pos, bv] w (Ret fun v w' => ∃ G', Ext (KW κ μ) G w G' w' ∧ WriteR G' κ μ w' s m p lq came c P I F B i pos d v) := by
  obtain ⟨hne1, hne2, hne3⟩ := h.map.1.cache.ne
  have h6 := h.map.1.ne
  have hK0 : ¬ KW κ μ 0 := by unfold KW; omega
  have h0μ : ¬ ((0 : Nat) = μ) := by omega
  have h8μ : ¬ (κ + μ + 8 = μ) := by omega
  have hdc := hd.1.isCell
  apply enter12
  apply R_in
  obtain ⟨G1, hb1, hx1⟩ := boxO G w (.pointer (some ⟨s, 0, none⟩)) 36 0 rfl
  simp (maxSteps := 1000000) (disch := omega) only [↓sy1, sy2, sy3, readOK, sy5, sy6, Nat.reduceEqDiff, ↓reduceIte, sy7, sy8, sy9, sya, oneOf, syb, syc, Nat.reduceAdd, Nat.reduceMul, syd, sye, syf, syg, syh, reduceCtorEq, F12]
  generalize hw1 : w.alloc (.cells (Value.pointer (some ⟨s, 0, none⟩)).cells 36) = w1 at hb1 hx1 ⊢
  obtain ⟨G2, hn2, hx2⟩ := boxO G1 w1 (.int .i64 pos) 3 (κ + μ + 8) rfl
  generalize hw2 : w1.alloc (.cells (Value.int .i64 pos).cells 3) = w2 at hn2 hx2 ⊢
  obtain ⟨G3, hr3, hx3⟩ := boxO G2 w2 bv 46 (κ + μ + 8) hdc
  generalize hw3 : w2.alloc (.cells bv.cells 46) = w3 at hr3 hx3 ⊢
  have hb3 := (hb1.ext hx2 id).ext hx3 id
  have hn3 := hn2.ext hx3 id
  have hx03 := (hx1.trans hx2).trans hx3
  have h3 := h.ext hx03 id id id
  have hd3 := hd.ext hx03 (fun _ h => h.elim)
  simp (maxSteps := 1000000) (disch := omega) only [↓sy1, sy2, sy3, readOK, sy5, sy6, Nat.reduceEqDiff, ↓reduceIte, sy7, sy8, sy9, sya, oneOf, syb, syc, Nat.reduceAdd, Nat.reduceMul, syd, sye, syf, syg, syh, reduceCtorEq, hb3.cell]
  refine call0 (h3.load (i := i)) ?_
  rintro _ w4 ⟨rfl, G4, hx4, h4⟩
  obtain ⟨w5, G5, st5, hq5, hoq5, hx5⟩ := openO G4 w4 (lookO F I.length i)
  have hx35 : Ext (fun x => x = μ) G3 w3 G5 w5 := hx4.trans (hx5.mono (fun _ h => h.elim))
  have h5 := h4.ext hx5 id id id
  have hb5 := hb3.ext hx35 h0μ
  have hn5 := hn3.ext hx35 h8μ
  have hr5 := hr3.ext hx35 h8μ
  have hd5 := hd3.ext hx35 (fun x hh => .inl hh)
  have hx05 : Ext (KW κ μ) G w G5 w5 := (hx03.mono (fun _ h => h.elim)).trans (hx35.mono (fun x hh => .inl hh))
  have hlen : ∀ w', lenF w' 0 bv = some (.int .i64 d.length) := fun w' => hd.1.lenB w'
  rcases look_cases F I.length i with ⟨hl, hz⟩ | ⟨hl, j, o, rfl, hj1, hjk, hF, ho⟩
  · have hc : wrC F I.length i pos d.length = lookC F I.length i := if_pos hl
    simp (maxSteps := 1000000) (disch := omega) only [↓sy1, sy2, sy3, readOK, sy5, sy6, Nat.reduceEqDiff, ↓reduceIte, sy7, sy8, sy9, sya, oneOf, syb, syc, Nat.reduceAdd, Nat.reduceMul, syd, sye, syf, syg, syh, reduceCtorEq, st5, hl, decide_false, not_false_eq_true, decide_true]
    exact R_out ⟨G5, hx05, .inl ⟨by rw [hc]; exact hl, by rw [hc], h5⟩⟩
  rw [ho] at st5 hq5
  rw [hl, ho]
  by_cases hn0 : pos < 0
  · have hc : wrC F I.length j pos d.length = 2 := by unfold wrC; rw [if_neg (by simpa using hl), if_pos hn0]
    simp (maxSteps := 1000000) (disch := omega) only [↓sy1, sy2, sy3, readOK, sy5, sy6, Nat.reduceEqDiff, ↓reduceIte, sy7, sy8, sy9, sya, oneOf, syb, syc, Nat.reduceAdd, Nat.reduceMul, syd, sye, syf, syg, syh, reduceCtorEq, st5, hn5.cell, decide_true, not_true_eq_false, decide_false, hn0]
    exact R_out ⟨G5, hx05, .inl ⟨by rw [hc]; omega, by rw [hc], h5⟩⟩
  by_cases hn1 : 70656 < pos
  · have hc : wrC F I.length j pos d.length = 6 := by unfold wrC; rw [if_neg (by simpa using hl), if_neg hn0, if_pos (.inl hn1)]
    simp (maxSteps := 1000000) (disch := omega) only [↓sy1, sy2, sy3, readOK, sy5, sy6, Nat.reduceEqDiff, ↓reduceIte, sy7, sy8, sy9, sya, oneOf, syb, syc, Nat.reduceAdd, Nat.reduceMul, syd, sye, syf, syg, syh, reduceCtorEq, st5, hn5.cell, decide_true, not_true_eq_false, decide_false, hn0, hn1]
    exact R_out ⟨G5, hx05, .inl ⟨by rw [hc]; omega, by rw [hc], h5⟩⟩
  by_cases hn2 : 70656 - pos < d.length
  · have hc : wrC F I.length j pos d.length = 6 := by unfold wrC; rw [if_neg (by simpa using hl), if_neg hn0, if_pos (.inr hn2)]
    simp (maxSteps := 1000000) (disch := omega) only [↓sy1, sy2, sy3, readOK, sy5, sy6, Nat.reduceEqDiff, ↓reduceIte, sy7, sy8, sy9, sya, oneOf, syb, syc, Nat.reduceAdd, Nat.reduceMul, syd, sye, syf, syg, syh, reduceCtorEq, st5, hn5.cell, hr5.cell, hlen, decide_true, not_true_eq_false, decide_false, hn0, hn1, hn2]
    exact R_out ⟨G5, hx05, .inl ⟨by rw [hc]; omega, by rw [hc], h5⟩⟩
  have hc : wrC F I.length j pos d.length = 0 := by unfold wrC; rw [if_neg (by simpa using hl), if_neg hn0, if_neg (by omega)]
  obtain ⟨n, rfl⟩ : ∃ k : Nat, pos = k := ⟨pos.toNat, by omega⟩
  obtain ⟨hmid, hok, hho⟩ := h5.file hF
  by_cases hd0 : d = []
  · have hdl0 : d.length = 0 := by rw [hd0]; rfl
    simp (maxSteps := 1000000) (disch := omega) only [↓sy1, sy2, sy3, readOK, sy5, sy6, Nat.reduceEqDiff, ↓reduceIte, sy7, sy8, sy9, sya, oneOf, syb, syc, Nat.reduceAdd, Nat.reduceMul, syd, sye, syf, syg, syh, reduceCtorEq, st5, hn5.cell, hr5.cell, hlen, decide_true, not_true_eq_false, decide_false, hn0, hn1, show (d.length : Int) = 0 from by omega, show ¬ ((70656 : Int) - (n : Int) < 0) from by omega]
    exact R_out ⟨G5, hx05, .inr (.inl ⟨hc, hd0, rfl, h5⟩)⟩
  have hdl0 : d.length ≠ 0 := fun hh => hd0 (List.eq_nil_of_length_eq_zero hh)
  simp (maxSteps := 1000000) (disch := omega) only [↓sy1, sy2, sy3, readOK, sy5, sy6, Nat.reduceEqDiff, ↓reduceIte, sy7, sy8, sy9, sya, oneOf, syb, syc, Nat.reduceAdd, Nat.reduceMul, syd, sye, syf, syg, syh, reduceCtorEq, st5, hn5.cell, hr5.cell, hlen, decide_true, not_true_eq_false, decide_false, hn0, hn1, hn2, show ¬ ((d.length : Int) = 0) from by omega, hb5.cell]
  refine call0 (tryI (free := freeN P + needN o.size) (want := needN (max o.size (n + d.length))) (most := 3 + needN (max o.size (n + d.length))) (X := fun c' P' I' F' B' => I' = I ∧ ∃ o', F' = upF F j (some o') ∧ B' = upB B j (wrB (B j) n d) ∧ o'.size = max o.size (n + d.length) ∧ o'.kind = o.kind ∧ o'.mode = o.mode ∧ o'.links = o.links ∧ freeN P' + needN (max o.size (n + d.length)) = freeN P + needN o.size ∧ ∃ L, L.length ≤ 2 + needN (max o.size (n + d.length)) ∧ Dty L c c') (Z := fun _ _ => True) (Zf := fun _ _ => True) h5 (by kernel_rfl) (fun _ _ _ _ _ => trivial) (fun _ _ _ _ _ _ _ => trivial) ?_) ?_
  · intro G0 hx0 h0
    refine RetF.mono (write1_spec h0.map h0.sto (hb5.ext hx0 id) (hq5.keep hx0.growG id) (by rw [hx0.own _ hq5.lt, hx0.fixe _ hq5.lt id]; exact hoq5) (hn5.ext hx0 id) (hr5.ext hx0 id) (hd5.ext hx0 (fun _ h => h.elim)) hmid hok hho (by omega)) ?_ ?_
    · rintro _ w7 ⟨G7, c7, P7, o7, b7, hx7, h7, hf7, rfl, hsz, hkd, hmd, hln, hfr, hd7⟩
      have hol : o7.own.length = needN (max o.size (n + d.length)) := by rw [(hf7.ok j o7 upF_same).own_len, hsz]
      exact ⟨G7, c7, P7, I, _, _, hx7, h7, hf7, hd7.near, rfl, ⟨rfl, o7, rfl, rfl, hsz, hkd, hmd, hln, hfr, _, by simp [hol]; omega, hd7⟩, trivial⟩
    · intro w7 hS
      exact hS.z (fun _ h => h)
  rintro v w7 ⟨G7, hx7, hR⟩
  simp (maxSteps := 1000000) (disch := omega) only [↓sy1, sy2, sy3, readOK, sy5, sy6, Nat.reduceEqDiff, ↓reduceIte, sy7, sy8, sy9, sya, oneOf, syb, syc, Nat.reduceAdd, Nat.reduceMul, syd, sye, syf, syg, syh, reduceCtorEq]
  exact R_out ⟨G7, hx05.trans hx7, .inr (.inr ⟨hc, hd0, j, o, n, rfl, rfl, hF, hR⟩)⟩
end
end Go.Proofs.YtienelpepioggaaGreat

/- make, get, new, map: the whole functions. -/
namespace Go.Proofs.YtienelpepioggaaGreat
open Go
set_option linter.unusedSimpArgs false
open Go.RowKit (intOf)
theorem enterMake {Φ : Value → World → Prop} {Ψ : List PanicEntry → World → Prop} {w : World} (v0 v1 v2 : Value) (h : symS 30 Tryz.prog F11 ⟨fun e w => RP (e 6) (fun v w => Φ (.tuple #[v, e 7]) w) w, fun _ _ _ => False, fun e w => RP (e 6) (fun v w => Φ (.tuple #[v, e 7]) w) w, Ψ⟩ (upd (upd (upd env0 0 v0) 1 v1) 2 v2) w) : Calls Tryz.prog 11 #[v0, v1, v2] w (Out Φ Ψ) :=
  calls_symP (args := [v0, v1, v2]) 30 6 7 Tryz.func11 (by kernel_rfl) (by kernel_rfl) (by kernel_rfl) Tryz.underlying3 (by kernel_rfl) (by kernel_rfl) (by simp) F11_eq h
section
variable {G : Gh} {κ μ m p lq came s : Nat} {w : World} {c : Csh} {P I : List Bool} {F : Nat → Option Opn} {B : Nat → List UInt8}
/-- What Make's errors are. -/
def mkC (kd md : Int) : Int := if (1 ≤ kd ∧ kd ≤ 3) ∧ 0 ≤ md ∧ md ≤ 4095 then 0 else 2
def MakeR (G : Gh) (κ μ : Nat) (w : World) (s m p lq came : Nat) (c : Csh) (P I : List Bool) (F : Nat → Option Opn) (B : Nat → List UInt8) (kd md : Int) (v : Value) : Prop :=
  (mkC kd md ≠ 0 ∧ v = .tuple #[.int .i64 0, .int .i64 2] ∧ Ino G κ μ w s m p lq came c P I F B) ∨
  (mkC kd md = 0 ∧ v = .tuple #[.int .i64 (firstN I : Nat), .int .i64 0] ∧ ∃ c', Ino G κ μ w s m p lq came c' P (I.set (firstN I) true) (upF F (firstN I) (some (Opn.new kd.toNat md.toNat (firstN I)))) (upB B (firstN I) []) ∧ firstN I < I.length ∧ Dty [1, 3 + firstN I / 8] c c') ∨
  (mkC kd md = 0 ∧ v = .tuple #[.int .i64 0, .int .i64 7] ∧ Back G κ μ w s m p lq came I.length c ∧ NoRoom c (freeN I) 1 3)
set_option maxRecDepth 20000 in
set_option maxHeartbeats 2000000 in
theorem imake_spec (h : Ino G κ μ w s m p lq came c P I F B) {kd md : Int} :
    Calls Tryz.prog 11 #[.pointer (some ⟨s, 0, none⟩), .int .i64 kd, .int .i64 md] w (Ret fun v w' => ∃ G', Ext (KW κ μ) G w G' w' ∧ MakeR G' κ μ w' s m p lq came c P I F B kd md v) := by
  obtain ⟨hne1, hne2, hne3⟩ := h.map.1.cache.ne
  have h6 := h.map.1.ne
  have hK0 : ¬ KW κ μ 0 := by unfold KW; omega
  have h0μ : ¬ ((0 : Nat) = μ) := by omega
  have hnm : ¬ (6 = μ) := by omega
  have hn7 : ¬ (6 = κ + μ + 7) := by omega
  have hk6 : ∀ x, x = μ ∨ x = 6 → KW κ μ x := fun x hh => hh.elim .inl (fun hh => .inr (.inl hh))
  apply enterMake
  apply R_in
  obtain ⟨G1, hb1, hx1⟩ := boxO G w (.pointer (some ⟨s, 0, none⟩)) 36 0 rfl
  simp (maxSteps := 1000000) (disch := omega) only [↓sy1, sy2, sy3, readOK, sy5, sy6, Nat.reduceEqDiff, ↓reduceIte, sy7, sy8, sy9, sya, oneOf, syb, syc, Nat.reduceAdd, Nat.reduceMul, syd, sye, syf, syg, syh, reduceCtorEq, F11]
  generalize hw1 : w.alloc (.cells (Value.pointer (some ⟨s, 0, none⟩)).cells 36) = w1 at hb1 hx1 ⊢
  obtain ⟨G2, hk2, hx2⟩ := boxO G1 w1 (.int .i64 kd) 45 0 rfl
  generalize hw2 : w1.alloc (.cells (Value.int .i64 kd).cells 45) = w2 at hk2 hx2 ⊢
  obtain ⟨G3, hm3, hx3⟩ := boxO G2 w2 (.int .i64 md) 3 0 rfl
  generalize hw3 : w2.alloc (.cells (Value.int .i64 md).cells 3) = w3 at hm3 hx3 ⊢
  obtain ⟨G4, hf4, hx4⟩ := boxO G3 w3 (.int .i64 0) 3 6 rfl
  generalize hw4 : w3.alloc (.cells (Value.int .i64 0).cells 3) = w4 at hf4 hx4 ⊢
  have hb4 := ((hb1.ext hx2 id).ext hx3 id).ext hx4 id
  have hk4 := (hk2.ext hx3 id).ext hx4 id
  have hm4 := hm3.ext hx4 id
  have hx04 := ((hx1.trans hx2).trans hx3).trans hx4
  have h4 := h.ext hx04 id id id
  have hxk : Ext (KW κ μ) G w G4 w4 := hx04.mono (fun _ h => h.elim)
  have bad : ∀ w' (_ : BoxAt G4 w' w3.heap.size 6 (.int .i64 0)) (_ : Ino G4 κ μ w' s m p lq came c P I F B) (_ : Ext (KW κ μ) G w G4 w'), mkC kd md = 2 → RP (.pointer (some ⟨w3.heap.size, 0, none⟩)) (fun v w' => ∃ G', Ext (KW κ μ) G w G' w' ∧ MakeR G' κ μ w' s m p lq came c P I F B kd md (.tuple #[v, .int .i64 2])) w' :=
    fun w' hf' hi' hx' hc => ⟨_, _, rfl, hf'.cell, G4, hx', .inl ⟨by rw [hc]; omega, rfl, hi'⟩⟩
  obtain ⟨w5, st5, hf5, hx5, hk5⟩ := hf4.store (u := .int .i64 0) rfl
  have hbad := fun hc => bad w5 hf5 (h4.ext hx5 h6.1 h6.2 (by omega)) (hxk.trans (hx5.mono (fun x hh => .inr (.inl hh)))) hc
  by_cases hkd0 : kd < 1
  · have hc : mkC kd md = 2 := if_neg (by omega)
    simp (maxSteps := 1000000) (disch := omega) only [↓sy1, sy2, sy3, readOK, sy5, sy6, Nat.reduceEqDiff, ↓reduceIte, sy7, sy8, sy9, sya, oneOf, syb, syc, Nat.reduceAdd, Nat.reduceMul, syd, sye, syf, syg, syh, reduceCtorEq, hb4.cell, hk4.cell, hm4.cell, hkd0, decide_true, decide_false, st5]
    exact R_out (hbad hc)
  by_cases hkd1 : 3 < kd
  · have hc : mkC kd md = 2 := if_neg (by omega)
    simp (maxSteps := 1000000) (disch := omega) only [↓sy1, sy2, sy3, readOK, sy5, sy6, Nat.reduceEqDiff, ↓reduceIte, sy7, sy8, sy9, sya, oneOf, syb, syc, Nat.reduceAdd, Nat.reduceMul, syd, sye, syf, syg, syh, reduceCtorEq, hb4.cell, hk4.cell, hm4.cell, hkd0, hkd1, decide_true, decide_false, st5]
    exact R_out (hbad hc)
  simp (maxSteps := 1000000) (disch := omega) only [↓sy1, sy2, sy3, readOK, sy5, sy6, Nat.reduceEqDiff, ↓reduceIte, sy7, sy8, sy9, sya, oneOf, syb, syc, Nat.reduceAdd, Nat.reduceMul, syd, sye, syf, syg, syh, reduceCtorEq, hb4.cell, hk4.cell, hm4.cell, hkd0, hkd1, decide_true, decide_false]
  refine call0 (imode_spec (n := md)) ?_
  rintro _ w6 ⟨rfl, hw6⟩
  subst w6
  by_cases hmd : 0 ≤ md ∧ md ≤ 4095
  rotate_left
  · have hc : mkC kd md = 2 := if_neg (by omega)
    simp (maxSteps := 1000000) (disch := omega) only [↓sy1, sy2, sy3, readOK, sy5, sy6, Nat.reduceEqDiff, ↓reduceIte, sy7, sy8, sy9, sya, oneOf, syb, syc, Nat.reduceAdd, Nat.reduceMul, syd, sye, syf, syg, syh, reduceCtorEq, hmd, decide_false, Bool.not_false, st5]
    exact R_out (hbad hc)
  have hc : mkC kd md = 0 := if_pos ⟨by omega, hmd⟩
  clear hbad bad
  obtain ⟨kd, rfl⟩ : ∃ n : Nat, kd = n := ⟨kd.toNat, by omega⟩
  obtain ⟨md, rfl⟩ : ∃ n : Nat, md = n := ⟨md.toNat, by omega⟩
  simp (maxSteps := 1000000) (disch := omega) only [↓sy1, sy2, sy3, readOK, sy5, sy6, Nat.reduceEqDiff, ↓reduceIte, sy7, sy8, sy9, sya, oneOf, syb, syc, Nat.reduceAdd, Nat.reduceMul, syd, sye, syf, syg, syh, reduceCtorEq, hmd, decide_true, and_self, Bool.not_true, hb4.cell]
  refine call0 (tryI (free := freeN I) (want := 1) (most := 3) (X := fun c' P' I' F' B' => P' = P ∧ I' = I.set (firstN I) true ∧ F' = upF F (firstN I) (some (Opn.new kd md (firstN I))) ∧ B' = upB B (firstN I) [] ∧ firstN I < I.length ∧ Dty [1, 3 + firstN I / 8] c c')
    (Z := fun G w => BoxAt G w w3.heap.size 6 (.int .i64 (firstN I : Nat))) (Zf := fun G w => ∃ v, BoxAt G w w3.heap.size 6 v) h4 (by kernel_rfl) (fun _ _ _ hz hx => hz.ext hx hn7) (fun _ _ _ o ho ⟨v, hz⟩ hx => ⟨v, hz.ext hx (by omega)⟩) ?_) ?_
  · intro G0 hx0 h0
    refine RetF.mono (make1_spec h0.map h0.sto h0.fs (hb4.ext hx0 id) (hf4.ext hx0 id) (hk4.ext hx0 id) (hm4.ext hx0 id) ⟨by omega, by omega⟩ (by omega)) ?_ ?_
    · rintro _ w7 ⟨G7, c7, hx7, h7, hf7, hlt, hbx, hd7⟩
      exact ⟨G7, c7, P, _, _, _, hx7.mono hk6, h7, hf7, hd7.near, by simp, ⟨rfl, rfl, rfl, rfl, hlt, hd7⟩, hbx⟩
    · rintro w7 ⟨G7, c7, L, hx7, h7, hd7, hn7', hz7⟩
      exact ⟨G7, c7, L, hx7.mono hk6, h7, hd7, hn7', hz7⟩
  rintro v w7 ⟨G7, hx7, hR⟩
  rcases hR with ⟨rfl, c7, P7, I7, F7, B7, hi7, _, _, ⟨rfl, rfl, rfl, rfl, hlt, hd7⟩, hbx⟩ | ⟨rfl, hback, hno, v7, hbx⟩
  · obtain ⟨w8, st8, hf8, hx8, hk8⟩ := hbx.store (u := .int .i64 (firstN I : Nat)) rfl
    simp (maxSteps := 1000000) (disch := omega) only [↓sy1, sy2, sy3, readOK, sy5, sy6, Nat.reduceEqDiff, ↓reduceIte, sy7, sy8, sy9, sya, oneOf, syb, syc, Nat.reduceAdd, Nat.reduceMul, syd, sye, syf, syg, syh, reduceCtorEq, decide_true, not_true_eq_false, decide_false, hbx.cell, st8]
    refine R_out ⟨_, _, rfl, hf8.cell, G7, (hxk.trans hx7).trans (hx8.mono (fun x hh => .inr (.inl hh))), .inr (.inl ⟨hc, rfl, c7, ?_, hlt, hd7⟩)⟩
    exact hi7.ext hx8 h6.1 h6.2 (by omega)
  · obtain ⟨w8, st8, hf8, hx8, hk8⟩ := hbx.store (u := .int .i64 0) rfl
    obtain ⟨w9, st9, hf9, hx9, hk9⟩ := hf8.store (u := .int .i64 0) rfl
    simp (maxSteps := 1000000) (disch := omega) only [↓sy1, sy2, sy3, readOK, sy5, sy6, Nat.reduceEqDiff, ↓reduceIte, sy7, sy8, sy9, sya, oneOf, syb, syc, Nat.reduceAdd, Nat.reduceMul, syd, sye, syf, syg, syh, reduceCtorEq, Int.reduceEq, decide_true, not_false_eq_true, decide_false, st8, hf8.cell, st9]
    refine R_out ⟨_, _, rfl, hf9.cell, G7, ((hxk.trans hx7).trans (hx8.mono (fun x hh => .inr (.inl hh)))).trans (hx9.mono (fun x hh => .inr (.inl hh))), .inr (.inr ⟨hc, rfl, ?_, hno⟩)⟩
    obtain ⟨c', P', I', F', B', h1, h2, h3⟩ := hback
    exact ⟨c', P', I', F', B', (h1.ext hx8 h6.1 h6.2 (by omega)).ext hx9 h6.1 h6.2 (by omega), h2, h3⟩
theorem inew_spec (G : Gh) (w : World) (m : Nat) : Calls Tryz.prog 8 #[.pointer (some ⟨m, 0, none⟩)] w (Ret fun v w' => ∃ s G', v = .tuple #[.pointer (some ⟨s, 0, none⟩), .int .i64 0] ∧ w.heap.size ≤ s ∧ StoreAt G' w' s m ∧ Ext0 G w G' w') := by
  apply enter8
  apply R_in
  have hg : Grow w (w.alloc (.cells #[.pointer (some ⟨m, 0, none⟩)] 76)) := (Keep.refl _ _).alloc _
  have hb := heap_alloc_new w (.cells #[.pointer (some ⟨m, 0, none⟩)] 76)
  have ho := upto_own (G := G) (o := 0) (f := 0) (Nat.le_refl w.heap.size)
  simp (maxSteps := 1000000) (disch := omega) only [↓sy1, sy2, sy3, readOK, sy5, sy6, Nat.reduceEqDiff, ↓reduceIte, sy7, sy8, sy9, sya, oneOf, syb, syc, Nat.reduceAdd, Nat.reduceMul, syd, sye, syf, syg, syh, reduceCtorEq, F8, fill_one, oneF_cell (v := .pointer (some ⟨m, 0, none⟩)) rfl]
  exact R_out ⟨w.heap.size, G.upto w.heap.size (fun _ => 0) (fun _ => 0), rfl, Nat.le_refl _, ⟨hb, ho.1⟩, .upto hg _ _⟩
end
end Go.Proofs.YtienelpepioggaaGreat

/- read: bytes of a file. -/
namespace Go.Proofs.YtienelpepioggaaGreat
open Go
set_option linter.unusedSimpArgs false
open Go.RowKit (intOf)
/-- A row that owner ρ has. -/
def OwnR (ρ : Nat) (G : Gh) (v : Value) : Prop := ∀ b, v.ownBlock = some b → G.own b = ρ ∧ G.fix b = 0
theorem OwnR.ext {ρ B n : Nat} {K : Nat → Prop} {G G' : Gh} {w w' : World} {v : Value} {t : TypeId} {xs : List Value} (h : OwnR ρ G v) (hx : Ext K G w G' w') (ho : w.ownsRow B t 1 v n xs) (hk : ¬ K ρ) : OwnR ρ G' v := fun b hb => by
  have hlt := (World.ownsRow.lt ho b hb).2
  rw [hx.own b hlt, hx.fixe b hlt (by rw [(h b hb).1]; exact hk)]
  exact h b hb
theorem ownR_keep {ρ B n : Nat} {K : Nat → Prop} {G G' : Gh} {w w' : World} {v : Value} {t : TypeId} {xs : List Value} (h : OwnR ρ G v) (hx : Ext K G w G' w') (ho : w.ownsRow B t 1 v n xs) (hk : ¬ K ρ) : w'.ownsRow B t 1 v n xs :=
  own_keep ho hx.keep (fun b hb hh => hk (by rw [(h b hb).1] at hh; exact hh))
/-- A part of a row, as a slice. -/
theorem ByteRow.slc {w : World} {g len cap a b : Nat} {kx ky : IntKind} {ls : List UInt8} (h : ByteRow w g ls) (hab : a ≤ b) (hb : b ≤ ls.length) (hbc : b ≤ cap) :
    ∃ v', slcV 1 (some ⟨g, 0, none⟩) len cap (some (.int kx (a : Int))) (some (.int ky (b : Int))) none = some v' ∧ HasB w v' ((ls.drop a).take (b - a)) := by
  by_cases hlt : a < b
  · refine ⟨_, slcV_int rfl rfl hlt hbc, ?_⟩
    rw [Nat.zero_add]
    exact h.part (by omega) (by omega)
  · have hab2 : a = b := by omega
    subst hab2
    have he : (ls.drop a).take (a - a) = [] := by rw [Nat.sub_self]; rfl
    rw [he]
    refine ⟨.slice (if cap = a then some ⟨g, 0, none⟩ else some ⟨g, 0 + a, none⟩) 0 (cap - a), ?_, ?_⟩
    · simp only [slcV, bndV]
      rw [if_pos ⟨by omega, by omega⟩]
      simp only [Int.toNat_natCast]
      rw [if_pos ⟨by omega, by omega⟩]
      simp [add_lit]
    · split
      · exact .inl ⟨g, 0, 0, _, rfl, rfl, by omega, fun j u hj => by simp [bs] at hj⟩
      · exact .inl ⟨g, 0 + a, 0, _, rfl, rfl, by omega, fun j u hj => by simp [bs] at hj⟩
section rules
variable {k : Kont} {e : Env} {w : World} {l : List GOp} {d : Option Nat}
/-- Bytes are appended to a row that owner ρ has. -/
theorem appB_rule {ρ B n : Nat} {G : Gh} {x y : Operand} {v : Value} {ls ys : List UInt8} {ty : TypeId} (hx : ev e x = v) (hy : HasB w (ev e y) ys) (ho : w.ownsRow B 5 1 v n (bs ls)) (hr : OwnR ρ G v) (hn : n + ys.length ≤ 100000000) (hB : B ≤ w.heap.size)
    (hh : ∀ v' w', w'.ownsRow B 5 1 v' (n + ys.length) (bs (ls ++ ys)) → OwnR ρ (G.upto w.heap.size (fun _ => ρ) (fun _ => 0)) v' → Ext (fun c => c = ρ) G w (G.upto w.heap.size (fun _ => ρ) (fun _ => 0)) w' → Keep (fun b => some b = v.ownBlock) w w' → R (symOps Tryz.prog l k (updO e d v') w')) :
    R (symOps Tryz.prog (⟨d, .hard (H (.call { callee := .builtin .append, args := #[x, y], argTypes := #[46, 46] }) ty), none⟩ :: l) k e w) := by
  refine app_own2 elemB hx rfl ho hy (m := ys.length) (by rw [bs_length, Nat.mul_one]) (bs_cell _) (by omega) (by omega) hB ?_
  intro v' w' ho' hg' hb'
  have hka := Keep.grown hg'
  have hbb : bs ls ++ bs ys = bs (ls ++ ys) := by simp [bs]
  rw [hbb] at ho'
  refine hh v' w' ho' (fun b hb => ?_) (Ext.app hka hr) hka
  by_cases hlt : b < w.heap.size
  · have hrow : v.ownBlock = some b := by
      rcases hb' with h1 | h1
      · rw [← h1]; exact hb
      · rw [h1] at hb
        have := Option.some.inj hb
        omega
    have := hr b hrow
    simp [Gh.upto, hlt]; exact this
  · exact upto_own (by omega)
end rules
/-- What Read's errors are; what it tells. -/
def rdC (F : Nat → Option Opn) (k : Nat) (i pos n : Int) : Int := if lookC F k i ≠ 0 then lookC F k i else if pos < 0 ∨ n < 0 then 2 else 0
def rdB (F : Nat → Option Opn) (B : Nat → List UInt8) (k : Nat) (i pos n : Int) : List UInt8 := if rdC F k i pos n ≠ 0 then [] else ((B i.toNat).drop pos.toNat).take n.toNat
section
variable {G : Gh} {κ μ m p lq came s : Nat} {w : World} {c : Csh} {P I : List Bool} {F : Nat → Option Opn} {B : Nat → List UInt8}
set_option maxRecDepth 20000 in
set_option maxHeartbeats 4000000 in
/-- Bytes are read into a row that owner ρ has. -/
theorem iread_spec {ρ : Nat} (h : Ino G κ μ w s m p lq came c P I F B) (hρ : ρ ≠ 0 ∧ ρ ≠ κ ∧ ρ ≠ μ) {i pos n : Int} (hpos : -9223372036854775808 ≤ pos ∧ pos ≤ 9223372036854775807) (hn : -9223372036854775808 ≤ n ∧ n ≤ 9223372036854775807) :
    Calls Tryz.prog 13 #[.pointer (some ⟨s, 0, none⟩), .int .i64 i, .int .i64 pos, .int .i64 n] w (Ret fun v w' => ∃ u G', v = .tuple #[u, .int .i64 (rdC F I.length i pos n)] ∧ w'.ownsRow w.heap.size 5 1 u (rdB F B I.length i pos n).length (bs (rdB F B I.length i pos n)) ∧ OwnR ρ G' u ∧
      Ext (fun x => x = μ) G w G' w' ∧ Ino G' κ μ w' s m p lq came c P I F B) := by
  obtain ⟨hne1, hne2, hne3⟩ := h.map.1.cache.ne
  obtain ⟨hρ0, hρκ, hρμ⟩ := hρ
  have h6 := h.map.1.ne
  have hnm : ¬ (6 = μ) := by omega
  have h0μ : ¬ ((0 : Nat) = μ) := by omega
  have hnil : ∀ (G : Gh), OwnR ρ G (.slice none 0 0) := fun G b hb => by cases hb
  apply enter13
  apply R_in
  simp (maxSteps := 1000000) (disch := omega) only [↓sy1, sy2, sy3, readOK, sy5, sy6, Nat.reduceEqDiff, ↓reduceIte, sy7, sy8, sy9, sya, oneOf, syb, syc, Nat.reduceAdd, Nat.reduceMul, syd, sye, syf, syg, syh, reduceCtorEq, F13]
  refine call0 (h.load (i := i)) ?_
  rintro _ w1 ⟨rfl, G1, hx1, h1⟩
  obtain ⟨w2, G2, st2, hq2, hoq2, hx2⟩ := openO G1 w1 (lookO F I.length i)
  have h2 := h1.ext hx2 id id id
  have hx02 := hx1.trans (hx2.mono (fun _ h => h.elim))
  have fail : ∀ code, code ≠ 0 → rdC F I.length i pos n = code → ∃ u G', Value.tuple #[.slice none 0 0, .int .i64 code] = .tuple #[u, .int .i64 (rdC F I.length i pos n)] ∧ w2.ownsRow w.heap.size 5 1 u (rdB F B I.length i pos n).length (bs (rdB F B I.length i pos n)) ∧ OwnR ρ G' u ∧
      Ext (fun x => x = μ) G w G' w2 ∧ Ino G' κ μ w2 s m p lq came c P I F B := by
    intro code h0 hc
    have hb : rdB F B I.length i pos n = [] := if_pos (by rw [hc]; exact h0)
    exact ⟨_, G2, by rw [hc], by rw [hb]; exact World.ownsRow_nil _ _ _ _, hnil _, hx02, h2⟩
  rcases look_cases F I.length i with ⟨hl, hz⟩ | ⟨hl, j, o, rfl, hj1, hjk, hF, ho⟩
  · have hc : rdC F I.length i pos n = lookC F I.length i := if_pos hl
    simp (maxSteps := 1000000) (disch := omega) only [↓sy1, sy2, sy3, readOK, sy5, sy6, Nat.reduceEqDiff, ↓reduceIte, sy7, sy8, sy9, sya, oneOf, syb, syc, Nat.reduceAdd, Nat.reduceMul, syd, sye, syf, syg, syh, reduceCtorEq, st2, hl, decide_false, not_false_eq_true, decide_true]
    exact R_out (fail _ hl hc)
  rw [ho] at st2 hq2
  rw [hl, ho]
  by_cases hp0 : pos < 0
  · have hc : rdC F I.length j pos n = 2 := by unfold rdC; rw [if_neg (by simpa using hl), if_pos (.inl hp0)]
    simp (maxSteps := 1000000) (disch := omega) only [↓sy1, sy2, sy3, readOK, sy5, sy6, Nat.reduceEqDiff, ↓reduceIte, sy7, sy8, sy9, sya, oneOf, syb, syc, Nat.reduceAdd, Nat.reduceMul, syd, sye, syf, syg, syh, reduceCtorEq, st2, decide_true, not_true_eq_false, decide_false, hp0]
    exact R_out (fail 2 (by omega) hc)
  by_cases hn0 : n < 0
  · have hc : rdC F I.length j pos n = 2 := by unfold rdC; rw [if_neg (by simpa using hl), if_pos (.inr hn0)]
    simp (maxSteps := 1000000) (disch := omega) only [↓sy1, sy2, sy3, readOK, sy5, sy6, Nat.reduceEqDiff, ↓reduceIte, sy7, sy8, sy9, sya, oneOf, syb, syc, Nat.reduceAdd, Nat.reduceMul, syd, sye, syf, syg, syh, reduceCtorEq, st2, decide_true, not_true_eq_false, decide_false, hp0, hn0]
    exact R_out (fail 2 (by omega) hc)
  clear fail
  have hc : rdC F I.length j pos n = 0 := by unfold rdC; rw [if_neg (by simpa using hl), if_neg (by omega)]
  obtain ⟨pos, rfl⟩ : ∃ k : Nat, pos = k := ⟨pos.toNat, by omega⟩
  obtain ⟨n, rfl⟩ : ∃ k : Nat, n = k := ⟨n.toNat, by omega⟩
  have hb : rdB F B I.length j pos n = ((B j).drop pos).take n := by unfold rdB; rw [if_neg (by rw [hc]; simp)]; rfl
  rw [hc, hb]
  obtain ⟨hmid, hok, hho⟩ := h2.file hF
  have hc3 := hq2.cell (j := 3) (by omega)
  rw [show o.cell 3 = o.size from rfl] at hc3
  have hos := hok.size
  have hbl := hho.len
  by_cases hge : o.size ≤ pos
  · have hb0 : ((B j).drop pos).take n = [] := by rw [List.drop_eq_nil_of_le (by omega)]; simp
    rw [hb0]
    simp (maxSteps := 1000000) (disch := omega) only [↓sy1, sy2, sy3, readOK, sy5, sy6, Nat.reduceEqDiff, ↓reduceIte, sy7, sy8, sy9, sya, oneOf, syb, syc, Nat.reduceAdd, Nat.reduceMul, syd, sye, syf, syg, syh, reduceCtorEq, st2, decide_true, not_true_eq_false, decide_false, hp0, hn0, hc3, show (o.size : Int) ≤ (pos : Int) from by omega]
    exact R_out ⟨_, G2, rfl, World.ownsRow_nil _ _ _ _, hnil _, hx02, h2⟩
  simp (maxSteps := 1000000) (disch := omega) only [↓sy1, sy2, sy3, readOK, sy5, sy6, Nat.reduceEqDiff, ↓reduceIte, sy7, sy8, sy9, sya, oneOf, syb, syc, Nat.reduceAdd, Nat.reduceMul, syd, sye, syf, syg, syh, reduceCtorEq, st2, decide_true, not_true_eq_false, decide_false, hp0, hn0, hc3, show ¬ ((o.size : Int) ≤ (pos : Int)) from by omega]
  generalize hend : pos + min n (o.size - pos) = fin
  refine min_rule (a := n) (b := ((o.size - pos : Nat) : Int)) (by simp only [upd_at, Nat.reduceEqDiff, reduceIte, ev_tmp, ev_const, List.map_cons, List.map_nil]) (by simp only [upd_at, Nat.reduceEqDiff, reduceIte, ev_tmp, ev_const, List.map_cons, List.map_nil]; exact congrArg (Value.int .i64) (by omega)) ?_
  have hmn : (if ((o.size - pos : Nat) : Int) < (n : Int) then ((o.size - pos : Nat) : Int) else (n : Int)) = ((min n (o.size - pos) : Nat) : Int) := by split <;> omega
  rw [hmn]
  have hquo : ((pos : Nat) : Int).tdiv 512 = ((pos / 512 : Nat) : Int) := rfl
  have hadd : ((pos : Nat) : Int) + ((min n (o.size - pos) : Nat) : Int) = ((fin : Nat) : Int) := by omega
  simp (maxSteps := 1000000) (disch := omega) only [↓sy1, sy2, sy3, readOK, sy5, sy6, Nat.reduceEqDiff, ↓reduceIte, sy7, sy8, sy9, sya, oneOf, syb, syc, Nat.reduceAdd, Nat.reduceMul, syd, sye, syf, syg, syh, reduceCtorEq, hadd, hquo]
  have hfle : fin ≤ o.size := by omega
  have hs512 : o.size ≤ 512 * o.data.length := by rw [hok.data]; unfold pagesN; omega
  have hpl : ∀ x ∈ o.data, (c.page x).length = 512 := fun x hx => h2.map.1.cache.oks.plen (hmid.pg (by simp [Opn.own, hx])).2.2.1
  have hfl := hho.flat
  refine loop_rule (fun e w' => ∃ (k : Nat) (G' : Gh) (u : Value) (out : List UInt8), pos / 512 ≤ k ∧ k ≤ 200 ∧ e 0 = .pointer (some ⟨s, 0, none⟩) ∧ e 2 = .int .i64 pos ∧ e 10 = .pointer (some ⟨w1.heap.size, 0, none⟩) ∧ e 12 = u ∧ e 13 = .int .i64 fin ∧ e 14 = .int .i64 k ∧
      out = ((B j).drop pos).take (min (512 * k) fin - pos) ∧ w'.ownsRow w.heap.size 5 1 u out.length (bs out) ∧ OwnR ρ G' u ∧ Ext (fun x => x = μ) G w G' w' ∧ Ino G' κ μ w' s m p lq came c P I F B ∧ OpnAt w' w1.heap.size o ∧ (G'.own w1.heap.size = 6 ∧ G'.fix w1.heap.size = 0)) (fun e _ => 200 - (intOf (e 14)).toNat)
    ⟨pos / 512, G2, .slice none 0 0, [], by omega, by omega, by simp [upd, updO, ev], by simp [upd, updO, ev], by simp [upd, updO, ev], by simp [upd, updO, ev], by simp [upd, updO, ev], by simp [upd, updO, ev], by rw [show min (512 * (pos / 512)) fin - pos = 0 from by omega]; rfl, World.ownsRow_nil _ _ _ _, hnil _, hx02, h2, hq2, hoq2⟩ ?_
  rintro e w3 ⟨k, G3, u, out, hk0, hk2, e0, e2, e10, e12, e13, e14, hout, hrow, hor, hx3, h3, hq3, hoq3⟩
  have houtl : out.length = min (min (512 * k) fin - pos) (o.size - pos) := by rw [hout, List.length_take, List.length_drop, hbl]
  by_cases hlt : 512 * k < fin
  · have hkd : k < o.data.length := by omega
    have hsp := slot_page (o := o) (k := k) hkd
    have hcell := hq3.cell (j := slotJ k) (slotJ_lt (by have := pagesN_le hos; rw [hok.data] at hkd; omega))
    generalize hnn : o.cell (slotJ k) = pg at hsp hcell
    obtain ⟨g1, g2, g3, g4⟩ := hmid.pg hsp.2
    have hkm : (k : Int) * 512 = ((512 * k : Nat) : Int) := by omega
    simp (maxSteps := 1000000) (disch := omega) only [↓sy1, sy2, sy3, readOK, sy5, sy6, Nat.reduceEqDiff, ↓reduceIte, sy7, sy8, sy9, sya, oneOf, syb, syc, Nat.reduceAdd, Nat.reduceMul, syd, sye, syf, syg, syh, reduceCtorEq, F13_L0, e0, e2, e10, e12, e13, e14, hkm, show ((512 * k : Nat) : Int) < ((fin : Nat) : Int) from by omega, decide_true, h3.sto.cell]
    refine call0 (mcache_spec h3.map.1) ?_
    rintro _ w4 ⟨rfl, hw4⟩
    subst w4
    simp (maxSteps := 1000000) (disch := omega) only [↓sy1, sy2, sy3, readOK, sy5, sy6, Nat.reduceEqDiff, ↓reduceIte, sy7, sy8, sy9, sya, oneOf, syb, syc, Nat.reduceAdd, Nat.reduceMul, syd, sye, syf, syg, syh, reduceCtorEq, e0, e2, e10, e12, e13, e14]
    refine call0 (slot_spec (q := w1.heap.size) (j := k) (by have := pagesN_le hos; rw [hok.data] at hkd; omega)) ?_
    rintro _ w4 ⟨rfl, hw4⟩
    subst w4
    simp (maxSteps := 1000000) (disch := omega) only [↓sy1, sy2, sy3, readOK, sy5, sy6, Nat.reduceEqDiff, ↓reduceIte, sy7, sy8, sy9, sya, oneOf, syb, syc, Nat.reduceAdd, Nat.reduceMul, syd, sye, syf, syg, syh, reduceCtorEq, hcell]
    refine call0 (pread_spec h3.map.1 (n := pg) g3) ?_
    rintro _ w4 ⟨g, cap, G4, rfl, hcap, hgw, hpr, hog, hm4, hx4⟩
    have h4 : Ino G4 κ μ w4 s m p lq came c P I F B := ⟨⟨hm4, h3.map.2⟩, h3.sto.ext hx4 h0μ, h3.fs, h3.old⟩
    have hq4 : OpnAt w4 w1.heap.size o := hx4.heap hq3 (by rw [hoq3.1]; exact hnm)
    have hoq4 : G4.own w1.heap.size = 6 ∧ G4.fix w1.heap.size = 0 := by rw [hx4.own _ hq3.lt, hx4.fixe _ hq3.lt (by rw [hoq3.1]; exact hnm)]; exact hoq3
    have hrow4 := ownR_keep hor hx4 hrow (fun hh => hρμ hh)
    have hor4 := hor.ext hx4 hrow (fun hh => hρμ hh)
    have hpgl := hpl pg (List.mem_of_getElem? hsp.1)
    simp (maxSteps := 1000000) (disch := omega) only [↓sy1, sy2, sy3, readOK, sy5, sy6, Nat.reduceEqDiff, ↓reduceIte, sy7, sy8, sy9, sya, oneOf, syb, syc, Nat.reduceAdd, Nat.reduceMul, syd, sye, syf, syg, syh, reduceCtorEq, e0, e2, e10, e12, e13, e14, hkm]
    generalize ha : pos - 512 * k = a
    generalize hz : min (fin - 512 * k) 512 = z
    refine max_rule (a := (pos : Int) - ((512 * k : Nat) : Int)) (b := 0) (by simp only [upd_at, Nat.reduceEqDiff, reduceIte, ev_tmp, ev_const, List.map_cons, List.map_nil]) (by simp only [upd_at, Nat.reduceEqDiff, reduceIte, ev_tmp, ev_const, List.map_cons, List.map_nil]) ?_
    have hmx : (if (0 : Int) > (pos : Int) - ((512 * k : Nat) : Int) then (0 : Int) else (pos : Int) - ((512 * k : Nat) : Int)) = ((a : Nat) : Int) := by split <;> omega
    rw [hmx]
    simp (maxSteps := 1000000) (disch := omega) only [↓sy1, sy2, sy3, readOK, sy5, sy6, Nat.reduceEqDiff, ↓reduceIte, sy7, sy8, sy9, sya, oneOf, syb, syc, Nat.reduceAdd, Nat.reduceMul, syd, sye, syf, syg, syh, reduceCtorEq, e0, e2, e10, e12, e13, e14, hkm]
    refine min_rule (a := ((fin : Nat) : Int) - ((512 * k : Nat) : Int)) (b := 512) (by simp only [upd_at, Nat.reduceEqDiff, reduceIte, ev_tmp, ev_const, List.map_cons, List.map_nil]) (by simp only [upd_at, Nat.reduceEqDiff, reduceIte, ev_tmp, ev_const, List.map_cons, List.map_nil]) ?_
    have hmz : (if (512 : Int) < ((fin : Nat) : Int) - ((512 * k : Nat) : Int) then (512 : Int) else ((fin : Nat) : Int) - ((512 * k : Nat) : Int)) = ((z : Nat) : Int) := by split <;> omega
    rw [hmz]
    have haz : a ≤ z := by omega
    obtain ⟨sv, hsl, hpart⟩ := hpr.slc (len := 512) (cap := cap) (kx := .i64) (ky := .i64) haz (by rw [hpgl]; omega) (by omega)
    generalize hys : ((c.page pg).drop a).take (z - a) = ys at hpart
    have hysl : ys.length = z - a := by rw [← hys, List.length_take, List.length_drop, hpgl]; omega
    have hcont : out ++ ys = ((B j).drop pos).take (min (512 * (k + 1)) fin - pos) := by
      have hfp := flat_part hpl hsp.1
      rw [hfl] at hfp
      have h1 : ys = ((B j).drop (512 * k + a)).take (z - a) := by
        rw [← hys, ← hfp, List.drop_take, List.drop_drop, List.take_take, List.drop_append_of_le_length (by omega), List.take_append_of_le_length (by rw [List.length_drop]; omega), Nat.min_eq_left (by omega)]
      rw [h1, hout, show 512 * k + a = pos + (min (512 * k) fin - pos) from by omega, ← List.drop_drop, ← List.take_add]
      congr 1; omega
    simp (maxSteps := 1000000) (disch := omega) only [↓sy1, sy2, sy3, readOK, sy5, sy6, Nat.reduceEqDiff, ↓reduceIte, sy7, sy8, sy9, sya, oneOf, syb, syc, Nat.reduceAdd, Nat.reduceMul, syd, sye, syf, syg, syh, reduceCtorEq, hsl, e12]
    refine appB_rule (ρ := ρ) (G := G4) (ys := ys) (by simp only [upd_at, Nat.reduceEqDiff, reduceIte, ev_tmp, ev_const, List.map_cons, List.map_nil, e12]) (by simp only [upd_at, Nat.reduceEqDiff, reduceIte, ev_tmp, ev_const, List.map_cons, List.map_nil]; exact hpart) hrow4 hor4 (by omega) (by have := hx3.size; have := hx4.size; omega) ?_
    intro u5 w5 hrow5 hor5 hx5 hk5
    have hxρ : ¬ (0 : Nat) = ρ := fun hh => hρ0 hh.symm
    have h5 := h4.ext hx5 (fun hh => hρκ hh.symm) (fun hh => hρμ hh.symm) hxρ
    have hlt4 := hq4.lt
    have hrb : ∀ b, u.ownBlock = some b → w.heap.size ≤ b := fun b hb => (World.ownsRow.lt hrow4 b hb).1
    have hx05 := Ext.past (μ := ρ) (hx3.trans hx4) hk5 hrb
    have hneq : ¬ (some w1.heap.size = u.ownBlock) := fun hh => by
      have h1 := (World.ownsRow.lt hrow4 _ hh.symm)
      rcases hrow4 with ⟨_, ⟨hz1, hz2⟩ | ⟨gg, cc, cur, hz1, _, hz3, _⟩⟩
      · rw [hz1] at hh; cases hh
      · rw [hz1] at hh
        have hgg : w1.heap.size = gg := Option.some.inj hh
        subst hgg
        have h7 := (Obj.cells.inj (Option.some.inj (hq4.symm.trans hz3))).2.1
        exact absurd h7 (by decide)
    have hq5 := hq4.keep hk5 hneq
    have hoq5 : (G4.upto w4.heap.size (fun _ => ρ) (fun _ => 0)).own w1.heap.size = 6 ∧ (G4.upto w4.heap.size (fun _ => ρ) (fun _ => 0)).fix w1.heap.size = 0 := by simp [Gh.upto, hlt4]; exact hoq4
    rw [hysl] at hrow5
    simp (maxSteps := 1000000) (disch := omega) only [↓sy1, sy2, sy3, readOK, sy5, sy6, Nat.reduceEqDiff, ↓reduceIte, sy7, sy8, sy9, sya, oneOf, syb, syc, Nat.reduceAdd, Nat.reduceMul, syd, sye, syf, syg, syh, reduceCtorEq, e0, e2, e10, e12, e13, e14]
    refine R_out ⟨⟨k + 1, _, u5, out ++ ys, by omega, by omega, rfl, rfl, hcont, ?_, hor5, hx05, h5, hq5, hoq5⟩, by simp only [intOf]; omega⟩
    rw [List.length_append, hysl]; exact hrow5
  · have hm : min (512 * k) fin - pos = min n (o.size - pos) := by omega
    rw [hm] at hout
    have hres : ((B j).drop pos).take n = out := by
      rw [hout]
      by_cases hno : n ≤ o.size - pos
      · rw [Nat.min_eq_left hno]
      · rw [Nat.min_eq_right (by omega), List.take_of_length_le (by rw [List.length_drop]; omega), List.take_of_length_le (by rw [List.length_drop]; omega)]
    rw [hres]
    have hkm : (k : Int) * 512 = ((512 * k : Nat) : Int) := by omega
    simp (maxSteps := 1000000) (disch := omega) only [↓sy1, sy2, sy3, readOK, sy5, sy6, Nat.reduceEqDiff, ↓reduceIte, sy7, sy8, sy9, sya, oneOf, syb, syc, Nat.reduceAdd, Nat.reduceMul, syd, sye, syf, syg, syh, reduceCtorEq, F13_L0, e0, e2, e10, e12, e13, e14, hkm, show ¬ (((512 * k : Nat) : Int) < ((fin : Nat) : Int)) from by omega, decide_false]
    exact R_out ⟨u, G3, rfl, hrow, hor, hx3, h3⟩
end
end Go.Proofs.YtienelpepioggaaGreat

/- Files on a disk greater than a group: changes of inodes where there is room. -/
namespace Go.Proofs.YtienelpepioggaaGreat
open Go
set_option linter.unusedSimpArgs false
open Go.RowKit (intOf)
/-- Whatever is neither fixed nor the law's own. -/
abbrev KT : Nat → Prop := fun x => x ≠ 0 ∧ x ≠ 13
theorem KT.of {K : Nat → Prop} (h : ¬ (K 0 ∨ K 13)) : ∀ x, K x → KT x := fun x hx => ⟨fun hh => h (.inl (hh ▸ hx)), fun hh => h (.inr (hh ▸ hx))⟩
theorem KT.kw : ∀ x, KW 2 7 x → KT x := KT.of (by unfold KW; omega)
/-- A new cache of so many pages. -/
def icT (pages most : Nat) : Csh := Csh.new (Dsk.zero (pages + 101)) 100 most
theorem icT_N (pages most : Nat) : (icT pages most).N = pages := by show (Dsk.zero (pages + 101)).first.length - 100 - 1 = pages; rw [zero_len]; omega
theorem icT_dirty (pages most : Nat) : (icT pages most).dirty = [] := Csh.new_dirty _ _ _
theorem icT_cap (pages most : Nat) : (icT pages most).cap = 100 := rfl
theorem icT_ops (pages most : Nat) : (icT pages most).D.ops.length = 0 := rfl
theorem uptoT_false {n N i : Nat} (h : n ≤ i) : (upto1 n N)[i]? ≠ some true := by
  intro hh
  have hlt := (List.getElem?_eq_some_iff.1 hh).1
  rw [upto1_length] at hlt
  rw [upto1_get hlt, decide_eq_false (by omega)] at hh
  cases hh
/-- No inode. -/
theorem fsT_none {c : Csh} {k : Nat} (h : Alc c (upto1 (3 + k / 8) c.N) (upto1 1 k)) : FsOk c (upto1 (3 + k / 8) c.N) (upto1 1 k) (fun _ => none) (fun _ => []) := by
  refine ⟨h, ⟨fun i o h => (by cases h), fun i h1 h2 => absurd h2 (uptoT_false h1), fun i o n h => (by cases h), fun i j o o' n h => (by cases h), fun i o h => (by cases h), fun n hn hP => ?_⟩, fun i o h => (by cases h), fun i o h => (by cases h)⟩
  rw [upto1_length] at hn
  exact absurd hP (uptoT_false hn)
theorem lookT_ok {F : Nat → Option Opn} {k j : Nat} {o : Opn} (h1 : 1 ≤ j) (h2 : j < k) (hF : F j = some o) : lookC F k j = 0 ∧ lookO F k j = o := by
  have hno : ¬ ((j : Int) < 1 ∨ (k : Int) ≤ (j : Int)) := by omega
  refine ⟨?_, ?_⟩
  · unfold lookC
    rw [if_neg hno, Int.toNat_natCast, hF]; rfl
  · unfold lookO
    rw [if_neg hno, Int.toNat_natCast, hF]; rfl
theorem rdT_all {F : Nat → Option Opn} {B : Nat → List UInt8} {k j : Nat} {o : Opn} (h1 : 1 ≤ j) (h2 : j < k) (hF : F j = some o) (hl : (B j).length ≤ 70656) : rdC F k j 0 70656 = 0 ∧ rdB F B k j 0 70656 = B j := by
  have hlk := lookT_ok h1 h2 hF
  have hc : rdC F k j 0 70656 = 0 := by unfold rdC; rw [hlk.1, if_neg (by simp), if_neg (by omega)]
  refine ⟨hc, ?_⟩
  unfold rdB
  rw [if_neg (by rw [hc]; simp)]
  simp only [Int.toNat_natCast]
  rw [show (0 : Int).toNat = 0 from rfl, List.drop_zero, List.take_of_length_le (by rw [show (70656 : Int).toNat = 70656 from rfl]; exact hl)]
theorem noRoomT {c : Csh} {free want most : Nat} (h : NoRoom c free want most) (hd : c.dirty.length + most ≤ c.cap) (hf : want ≤ free) : False := by
  rcases h with h | ⟨_, h⟩ <;> omega
theorem wrT_new (d : List UInt8) : wrB [] 0 d = d := by
  have hl : (rszB [] (max 0 (0 + d.length))).length = d.length := by rw [rszB_length]; omega
  simp only [wrB, patch, List.take_zero, List.nil_append, Nat.zero_add, List.length_nil]
  rw [List.drop_eq_nil_of_le (by rw [Nat.zero_add] at hl; omega), List.append_nil]
section
variable {G : Gh} {κ μ m p lq came s j : Nat} {w : World} {c : Csh} {P I : List Bool} {F : Nat → Option Opn} {B : Nat → List UInt8} {o : Opn} {bv : Value} {d : List UInt8}
theorem Ino.blenT (h : Ino G κ μ w s m p lq came c P I F B) (hF : F j = some o) : (B j).length = o.size ∧ o.size ≤ 70656 ∧ 1 ≤ j ∧ j < I.length := ⟨(h.fs.recs j o hF).len, (h.fs.ok j o hF).size, (h.fs.i_lt hF).1, (h.fs.i_lt hF).2.1⟩
/-- All of a new file is written. -/
theorem writeT_ok (h : Ino G κ μ w s m p lq came c P I F B) (hF : F j = some o) (hb : B j = []) (hd : RowO (KW κ μ) G w bv d) (hsz : d.length ≤ 70656) (hroom : needN d.length ≤ freeN P) (hcap : c.dirty.length + 3 + needN d.length ≤ c.cap) :
    Calls Tryz.prog 12 #[.pointer (some ⟨s, 0, none⟩), .int .i64 j, .int .i64 0, bv] w (Ret fun v w' => v = .int .i64 0 ∧ ∃ G' c' P' o', Ext (KW κ μ) G w G' w' ∧ Ino G' κ μ w' s m p lq came c' P' I (upF F j (some o')) (upB B j d) ∧ Near c c' ∧ o'.size = d.length ∧ freeN P' + needN d.length = freeN P) := by
  obtain ⟨b1, b2, b3, b4⟩ := h.blenT hF
  have hs0 : o.size = 0 := by rw [← b1, hb]; rfl
  have hlk := lookT_ok b3 b4 hF
  have hwc : wrC F I.length j 0 d.length = 0 := by
    unfold wrC
    rw [hlk.1, if_neg (by simp), if_neg (by omega), if_neg (by omega)]
  have hn0 : needN 0 = 0 := rfl
  refine Ret.mono (iwrite_file_spec h hd (by omega) (by omega)) ?_
  rintro v w' ⟨G', hx, hR⟩
  rcases hR with ⟨h0, _⟩ | ⟨_, hd0, rfl, h'⟩ | ⟨_, hd0, j', o', n, hj, hn, hFo, hT⟩
  · exact absurd hwc h0
  · refine ⟨rfl, G', c, P, o, hx, ?_, .refl c, by rw [hd0]; exact hs0, by rw [hd0]; rfl⟩
    have e1 : upB B j d = B := by rw [hd0, ← hb]; exact upB_self
    rw [e1, ← hF, upF_self]; exact h'
  · have hjj : j' = j := by omega
    have hnn : n = 0 := by omega
    subst hjj; subst hnn
    rw [hF] at hFo
    cases hFo
    rw [hs0, hn0, show max 0 (0 + d.length) = d.length from by omega] at hT
    rcases hT with ⟨rfl, c5, P5, I5, F5, B5, h5, hn5, hI5, ⟨rfl, o5, rfl, rfl, hs5, hk5, hm5, hl5, hf5, _⟩, _⟩ | ⟨_, _, hno, _⟩
    · rw [hb, wrT_new] at h5
      exact ⟨rfl, G', c5, P5, o5, hx, h5, hn5, hs5, by omega⟩
    · exact (noRoomT hno (by omega) (by omega)).elim
theorem mkT_ok (h : Ino G κ μ w s m p lq came c P I F B) (hcap : c.dirty.length + 3 ≤ c.cap) (hI : firstN I < I.length) {kd md : Nat} (hk : 1 ≤ kd ∧ kd ≤ 3) (hm : md ≤ 4095) :
    Calls Tryz.prog 11 #[.pointer (some ⟨s, 0, none⟩), .int .i64 kd, .int .i64 md] w (Ret fun v w' => v = .tuple #[.int .i64 (firstN I : Nat), .int .i64 0] ∧ ∃ G' c', Ext (KW κ μ) G w G' w' ∧ Ino G' κ μ w' s m p lq came c' P (I.set (firstN I) true) (upF F (firstN I) (some (Opn.new kd md (firstN I)))) (upB B (firstN I) []) ∧ Near c c' ∧ c'.dirty.length ≤ c.dirty.length + 2) := by
  have hmk : mkC kd md = 0 := by unfold mkC; rw [if_pos (by omega)]
  refine Ret.mono (imake_spec h) ?_
  rintro v w' ⟨G', hx, hR⟩
  rcases hR with ⟨h0, _⟩ | ⟨_, rfl, c2, h2, _, hd2⟩ | ⟨_, _, _, hno⟩
  · exact absurd hmk h0
  · exact ⟨rfl, G', c2, hx, h2, hd2.near, hd2.len⟩
  · have := firstN_at hI
    have h1 := freeN_on this
    exact (noRoomT hno hcap (by omega)).elim
theorem dropT_ok (h : Ino G κ μ w s m p lq came c P I F B) (hF : F j = some o) (hcap : c.dirty.length + 3 ≤ c.cap) :
    Calls Tryz.prog 14 #[.pointer (some ⟨s, 0, none⟩), .int .i64 j] w (Ret fun v w' => v = .int .i64 0 ∧ ∃ G' c' P', Ext (KW κ μ) G w G' w' ∧ Ino G' κ μ w' s m p lq came c' P' (I.set j false) (upF F j none) B ∧ Near c c' ∧ freeN P' = freeN P + needN o.size ∧ freeN (I.set j false) = freeN I + 1) := by
  obtain ⟨b1, b2, b3, b4⟩ := h.blenT hF
  have hlk := lookT_ok b3 b4 hF
  refine Ret.mono (idrop_spec h) ?_
  rintro v w' ⟨G', hx, hR⟩
  rcases hR with ⟨h0, _⟩ | ⟨_, j', o', hj, hFo, hT⟩
  · exact absurd hlk.1 h0
  · have hjj : j' = j := by omega
    subst hjj
    rw [hF] at hFo
    cases hFo
    rcases hT with ⟨rfl, c5, P5, I5, F5, B5, h5, hn5, hI5, ⟨rfl, rfl, rfl, hf5, _⟩, _⟩ | ⟨_, _, hno, _⟩
    · exact ⟨rfl, G', c5, P5, hx, h5, hn5, hf5, freeN_off (h.fs.own.num j' o hF).2.2⟩
    · exact (noRoomT hno (by omega) (by omega)).elim
end
end Go.Proofs.YtienelpepioggaaGreat
