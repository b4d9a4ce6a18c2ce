/- Texts of one claim, put together in their order: what each proves stands ahead of it. -/
import Derived.Test.YtienelpepioggaaGreatMb
import Derived.Laws.IdiomRangeMap
import Derived.Laws.BytesString
import Derived.Test.YtienelpepioggaaGreatMa
import Derived.Test.YtienelpepioggaaGreatChecked
import Derived.KernelRfl
import Derived.Shelf.Sort.Plain
import Derived.Shelf.Slices.In.SortNone
import Derived.Test.YtienelpepioggaaGreatProg
import Derived.Sort.OwnSortedInts
import Derived.Shelf.SlIterI.Nil
import Derived.Maps.AppendAt
import Derived.Laws.Small
/- How a disk lies in memory. Ghosts: who owns a block, and how many of its first cells nobody will write any more. -/
namespace Go.Proofs.YtienelpepioggaaGreat
open Go

structure Gh where
  own : Nat → Nat
  fix : Nat → Nat
/-- New ghosts for the blocks from B on. -/
def Gh.upto (G : Gh) (B : Nat) (o f : Nat → Nat) : Gh := ⟨fun b => if b < B then G.own b else o b, fun b => if b < B then G.fix b else f b⟩

/-- From (G, w) to (G', w') only blocks of owners in κ have changed, and no cell that is fixed. -/
structure Ext (κ : Nat → Prop) (G : Gh) (w : World) (G' : Gh) (w' : World) : Prop where
  os : w'.os = w.os
  tape : w'.tape = w.tape
  output : w'.output = w.output
  size : w.heap.size ≤ w'.heap.size
  own : ∀ b, b < w.heap.size → G'.own b = G.own b
  fix : ∀ b, b < w.heap.size → G.fix b ≤ G'.fix b
  fixe : ∀ b, b < w.heap.size → ¬ κ (G.own b) → G'.fix b = G.fix b
  blk : ∀ b, b < w.heap.size → ¬ κ (G.own b) → w'.heap[b]? = w.heap[b]?
  pre : ∀ b i v, b < w.heap.size → i < G.fix b → w.cell? ⟨b, i, none⟩ = some v → w'.cell? ⟨b, i, none⟩ = some v
/-- Nobody's blocks have changed. -/
abbrev Ext0 := Ext (fun _ => False)

section
variable {κ κ' : Nat → Prop} {G G' G'' : Gh} {w w' w'' : World}
theorem Ext.refl (κ : Nat → Prop) (G : Gh) (w : World) : Ext κ G w G w := ⟨rfl, rfl, rfl, Nat.le_refl _, fun _ _ => rfl, fun _ _ => Nat.le_refl _, fun _ _ _ => rfl, fun _ _ _ => rfl, fun _ _ _ _ _ h => h⟩
theorem Ext.trans (h : Ext κ G w G' w') (h' : Ext κ G' w' G'' w'') : Ext κ G w G'' w'' := by
  have hs : ∀ b, b < w.heap.size → b < w'.heap.size := fun b hb => Nat.lt_of_lt_of_le hb h.size
  refine ⟨h'.os.trans h.os, h'.tape.trans h.tape, h'.output.trans h.output, Nat.le_trans h.size h'.size, fun b hb => (h'.own b (hs b hb)).trans (h.own b hb),
    fun b hb => Nat.le_trans (h.fix b hb) (h'.fix b (hs b hb)), fun b hb hk => ?_, fun b hb hk => ?_, fun b i v hb hi hc => ?_⟩
  · exact (h'.fixe b (hs b hb) (by rw [h.own b hb]; exact hk)).trans (h.fixe b hb hk)
  · exact (h'.blk b (hs b hb) (by rw [h.own b hb]; exact hk)).trans (h.blk b hb hk)
  · exact h'.pre b i v (hs b hb) (Nat.lt_of_lt_of_le hi (h.fix b hb)) (h.pre b i v hb hi hc)
theorem Ext.mono (h : Ext κ G w G' w') (hk : ∀ c, κ c → κ' c) : Ext κ' G w G' w' :=
  ⟨h.os, h.tape, h.output, h.size, h.own, h.fix, fun b hb hn => h.fixe b hb (fun hc => hn (hk _ hc)), fun b hb hn => h.blk b hb (fun hc => hn (hk _ hc)), h.pre⟩
theorem Ext.ofGrow (h : Grow w w') (ho : ∀ b, b < w.heap.size → G'.own b = G.own b) (hf : ∀ b, b < w.heap.size → G'.fix b = G.fix b) : Ext κ G w G' w' :=
  ⟨h.os, h.tape, h.output, h.size, ho, fun b hb => Nat.le_of_eq (hf b hb).symm, fun b hb _ => hf b hb, fun b hb _ => h.blk b hb id, fun b i v hb _ hc => h.gcell hc⟩
theorem Ext.grow (h : Grow w w') : Ext κ G w G w' := .ofGrow h (fun _ _ => rfl) (fun _ _ => rfl)
theorem Ext.upto (h : Grow w w') (o f : Nat → Nat) : Ext κ G w (G.upto w.heap.size o f) w' := .ofGrow h (fun b hb => by simp [Gh.upto, hb]) (fun b hb => by simp [Gh.upto, hb])
theorem Ext.drew (h : Ext κ G w G' w') : Ext κ G w G' w'.drew := ⟨h.os, h.tape, h.output, h.size, h.own, h.fix, h.fixe, h.blk, h.pre⟩
theorem Ext.heap (h : Ext κ G w G' w') {b : Nat} {o : Obj} (hb : w.heap[b]? = some o) (hk : ¬ κ (G.own b)) : w'.heap[b]? = some o := (h.blk b (Array.getElem?_eq_some_iff.1 hb).1 hk).trans hb
theorem Ext.keep (h : Ext κ G w G' w') : Keep (fun b => κ (G.own b)) w w' := ⟨h.os, h.tape, h.output, h.size, h.blk⟩
theorem Ext.lt (_h : Ext κ G w G' w') {b : Nat} {o : Obj} (hb : w.heap[b]? = some o) : b < w.heap.size := (Array.getElem?_eq_some_iff.1 hb).1
end

/-- What a slice reads as, for good. -/
def FixV (G : Gh) (v : Value) (n : Nat) : Prop := ∀ b o l c, v = .slice (some ⟨b, o, none⟩) l c → 0 < n → o + n ≤ G.fix b
def HasF (G : Gh) (w : World) (v : Value) (xs : List Value) : Prop := Has 1 w v xs ∧ FixV G v xs.length
abbrev HasFB (G : Gh) (w : World) (v : Value) (l : List UInt8) := HasF G w v (bs l)
theorem HasF.nil (G : Gh) (w : World) : HasF G w (.slice none 0 0) [] := ⟨Has.nil 1 w, fun _ _ _ _ h => by cases h⟩
theorem HasF.ext {κ : Nat → Prop} {G G' : Gh} {w w' : World} {v : Value} {xs : List Value} (h : HasF G w v xs) (hx : Ext κ G w G' w') : HasF G' w' v xs := by
  obtain ⟨h1, h2⟩ := h
  refine ⟨?_, fun b o l c hv hn => ?_⟩
  · rcases h1 with ⟨b, o, n, c, rfl, h3, h4, h5⟩ | h1
    · refine .inl ⟨b, o, n, c, rfl, h3, h4, fun j u hj => ?_⟩
      have hc := h5 j u hj
      have hlt : j < xs.length := (List.getElem?_eq_some_iff.1 hj).1
      have := h2 b o n c rfl (by omega)
      exact hx.pre b (o + j) u (World.block_lt_of_cell? w _ hc) (by omega) hc
    · exact .inr h1
  · rcases h1 with ⟨b', o', n', c', hv', h3, h4, h5⟩ | ⟨rfl, h1⟩
    · rw [hv] at hv'
      cases hv'
      have := h2 b o l c hv hn
      have hb : b < w.heap.size := World.block_lt_of_cell? w _ (h5 0 _ (List.getElem?_eq_getElem (l := xs) hn))
      exact Nat.le_trans this (hx.fix b hb)
    · simp at hn

def RowsF (G : Gh) (w : World) : List Value → List (List UInt8) → Prop
  | [], [] => True
  | v :: vs, l :: ls => HasFB G w v l ∧ RowsF G w vs ls
  | _, _ => False
section
variable {κ : Nat → Prop} {G G' : Gh} {w w' : World}
theorem RowsF.ext (hx : Ext κ G w G' w') : ∀ {vs : List Value} {ls : List (List UInt8)}, RowsF G w vs ls → RowsF G' w' vs ls
  | [], [], _ => trivial
  | _ :: _, _ :: _, ⟨h1, h2⟩ => ⟨h1.ext hx, RowsF.ext hx h2⟩
theorem RowsF.rows : ∀ {vs : List Value} {ls : List (List UInt8)}, RowsF G w vs ls → Rows w vs ls
  | [], [], _ => trivial
  | _ :: _, _ :: _, ⟨h1, h2⟩ => ⟨h1.1, RowsF.rows h2⟩
theorem RowsF.length : ∀ {vs : List Value} {ls : List (List UInt8)}, RowsF G w vs ls → vs.length = ls.length
  | [], [], _ => rfl
  | _ :: _, _ :: _, ⟨_, h⟩ => by simp [RowsF.length h]
theorem RowsF.get : ∀ {vs : List Value} {ls : List (List UInt8)}, RowsF G w vs ls → ∀ i (h1 : i < vs.length) (h2 : i < ls.length), HasFB G w vs[i] ls[i]
  | _ :: _, _ :: _, ⟨h, _⟩, 0, _, _ => h
  | _ :: _, _ :: _, ⟨_, h⟩, i + 1, h1, h2 => by simpa using RowsF.get h i (by simpa using h1) (by simpa using h2)
theorem RowsF.snoc : ∀ {vs : List Value} {ls : List (List UInt8)} {v : Value} {l : List UInt8}, RowsF G w vs ls → HasFB G w v l → RowsF G w (vs ++ [v]) (ls ++ [l])
  | [], [], _, _, _, h => ⟨h, trivial⟩
  | _ :: _, _ :: _, _, _, ⟨h1, h2⟩, h => ⟨h1, RowsF.snoc h2 h⟩
theorem RowsF.set : ∀ {vs : List Value} {ls : List (List UInt8)} {v : Value} {l : List UInt8} (i : Nat), RowsF G w vs ls → HasFB G w v l → RowsF G w (vs.set i v) (ls.set i l)
  | [], [], _, _, _, _, _ => trivial
  | _ :: _, _ :: _, _, _, 0, ⟨_, h2⟩, h => ⟨h, h2⟩
  | _ :: _, _ :: _, _, _, i + 1, ⟨h1, h2⟩, h => ⟨h1, RowsF.set i h2 h⟩
theorem RowsF.cell {vs : List Value} {ls : List (List UInt8)} (h : RowsF G w vs ls) : ∀ u ∈ vs, isCell u = true := h.rows.cell
theorem RowsF.of (h : ∀ v l, HasB w v l → FixV G v l.length → HasFB G w v l) : True := trivial
end

/-- Rows that are read for good. -/
def RowsAt (G : Gh) (w : World) (v : Value) (ls : List (List UInt8)) : Prop := ∃ vs, HasF G w v vs ∧ RowsF G w vs ls
theorem RowsAt.ext {κ : Nat → Prop} {G G' : Gh} {w w' : World} {v : Value} {ls : List (List UInt8)} (h : RowsAt G w v ls) (hx : Ext κ G w G' w') : RowsAt G' w' v ls := let ⟨vs, h1, h2⟩ := h; ⟨vs, h1.ext hx, h2.ext hx⟩
theorem RowsAt.has {G : Gh} {w : World} {v : Value} {ls : List (List UInt8)} (h : RowsAt G w v ls) : HasR w v ls := let ⟨vs, h1, h2⟩ := h; ⟨vs, h1.1, h2.rows⟩

/-- An operation, as the program notes it. -/
def OpF (G : Gh) (w : World) (v : Value) : DOp → Prop
  | .wr n b => ∃ u, v = .iface 142 (.agg #[.int .i64 n, u]) ∧ HasFB G w u b
  | .fl => v = .iface 143 (.agg #[])
def OpsF (G : Gh) (w : World) : List Value → List DOp → Prop
  | [], [] => True
  | v :: vs, o :: os => OpF G w v o ∧ OpsF G w vs os
  | _, _ => False
def OpsAt (G : Gh) (w : World) (v : Value) (os : List DOp) : Prop := ∃ vs, HasF G w v vs ∧ OpsF G w vs os
section
variable {κ : Nat → Prop} {G G' : Gh} {w w' : World}
theorem OpF.ext (hx : Ext κ G w G' w') {v : Value} {o : DOp} (h : OpF G w v o) : OpF G' w' v o := by
  cases o with
  | wr n b => obtain ⟨u, h1, h2⟩ := h; exact ⟨u, h1, h2.ext hx⟩
  | fl => exact h
theorem OpsF.ext (hx : Ext κ G w G' w') : ∀ {vs : List Value} {os : List DOp}, OpsF G w vs os → OpsF G' w' vs os
  | [], [], _ => trivial
  | _ :: _, _ :: _, ⟨h1, h2⟩ => ⟨h1.ext hx, OpsF.ext hx h2⟩
theorem OpsF.length : ∀ {vs : List Value} {os : List DOp}, OpsF G w vs os → vs.length = os.length
  | [], [], _ => rfl
  | _ :: _, _ :: _, ⟨_, h⟩ => by simp [OpsF.length h]
theorem OpsF.snoc : ∀ {vs : List Value} {os : List DOp} {v : Value} {o : DOp}, OpsF G w vs os → OpF G w v o → OpsF G w (vs ++ [v]) (os ++ [o])
  | [], [], _, _, _, h => ⟨h, trivial⟩
  | _ :: _, _ :: _, _, _, ⟨h1, h2⟩, h => ⟨h1, OpsF.snoc h2 h⟩
theorem OpsF.get : ∀ {vs : List Value} {os : List DOp}, OpsF G w vs os → ∀ i (h1 : i < vs.length) (h2 : i < os.length), OpF G w vs[i] os[i]
  | _ :: _, _ :: _, ⟨h, _⟩, 0, _, _ => h
  | _ :: _, _ :: _, ⟨_, h⟩, i + 1, h1, h2 => by simpa using OpsF.get h i (by simpa using h1) (by simpa using h2)
theorem OpF.cell {v : Value} {o : DOp} (h : OpF G w v o) : isCell v = true := by
  cases o with
  | wr n b => obtain ⟨u, h1, _⟩ := h; subst h1; rfl
  | fl => cases h; rfl
theorem OpsF.cell : ∀ {vs : List Value} {os : List DOp}, OpsF G w vs os → ∀ u ∈ vs, isCell u = true
  | v :: vs, o :: os, ⟨h1, h2⟩, u, hu => by
    rcases List.mem_cons.1 hu with rfl | hu
    · exact h1.cell
    · exact OpsF.cell h2 u hu
theorem OpsAt.ext {v : Value} {os : List DOp} (h : OpsAt G w v os) (hx : Ext κ G w G' w') : OpsAt G' w' v os := let ⟨vs, h1, h2⟩ := h; ⟨vs, h1.ext hx, h2.ext hx⟩
end

/-- The safe sectors: a row of κ's own. -/
def SafeAt (G : Gh) (κ : Nat) (w : World) (v : Value) (ls : List (List UInt8)) : Prop :=
  ∃ vs sb, v.ownBlock = some sb ∧ w.ownsRow 0 46 1 v ls.length vs ∧ RowsF G w vs ls ∧ G.own sb = κ ∧ G.fix sb = 0
theorem SafeAt.ext {K : Nat → Prop} {G G' : Gh} {κ : Nat} {w w' : World} {v : Value} {ls : List (List UInt8)} (h : SafeAt G κ w v ls) (hx : Ext K G w G' w') (hk : ¬ K κ) : SafeAt G' κ w' v ls := by
  obtain ⟨vs, sb, h1, h2, h3, h4, h5⟩ := h
  have hlt : sb < w.heap.size := (World.ownsRow.lt h2 sb h1).2
  refine ⟨vs, sb, h1, own_keep h2 hx.keep (fun b hb => ?_), h3.ext hx, by rw [hx.own sb hlt]; exact h4, by rw [hx.fixe sb hlt (by rw [h4]; exact hk)]; exact h5⟩
  rw [h1] at hb; cases hb
  rw [h4]; exact hk

/-- The block in which a slice may still grow. -/
def spare : Value → Option Nat
  | .slice (some a) n c => if n < c then some a.block else none
  | _ => none
/-- Writes that wait at one sector. -/
def WaitV (G : Gh) (κ : Nat) (w : World) (v : Value) (ls : List (List UInt8)) : Prop :=
  ∃ vs b c, v = .slice (some ⟨b, 0, none⟩) ls.length c ∧ HasF G w v vs ∧ RowsF G w vs ls ∧ ls ≠ [] ∧ (ls.length < c → G.own b = κ ∧ G.fix b = ls.length ∧ w.ownsRow 0 46 1 v ls.length vs)
theorem WaitV.ext {K : Nat → Prop} {G G' : Gh} {κ : Nat} {w w' : World} {v : Value} {ls : List (List UInt8)} (h : WaitV G κ w v ls) (hx : Ext K G w G' w') (hk : ¬ K κ) : WaitV G' κ w' v ls := by
  obtain ⟨vs, b, c, rfl, h1, h2, h3, h4⟩ := h
  refine ⟨vs, b, c, rfl, h1.ext hx, h2.ext hx, h3, fun hlt => ?_⟩
  obtain ⟨h5, h6, h7⟩ := h4 hlt
  have hb : b < w.heap.size := (World.ownsRow.lt h7 b rfl).2
  refine ⟨by rw [hx.own b hb]; exact h5, by rw [hx.fixe b hb (by rw [h5]; exact hk)]; exact h6, own_keep h7 hx.keep (fun b' hb' => ?_)⟩
  cases hb'; rw [h5]; exact hk

/-- A map's entries: keys are numbers, stamps are apart. -/
structure MapOk (es : List MapEntry) (clk : Nat) : Prop where
  keys : es.Pairwise fun a b => a.key ≠ b.key
  born : es.Pairwise fun a b => a.born ≠ b.born
  clk : ∀ e ∈ es, e.born < clk
def WaitAt (G : Gh) (κ : Nat) (w : World) (m : Nat) (q : Nat → List (List UInt8)) : Prop :=
  ∃ es clk, w.heap[m]? = some (.map es clk) ∧ G.own m = κ ∧ MapOk es.toList clk ∧
    (∀ e ∈ es.toList, ∃ n : Nat, e.key = .int .i64 n ∧ WaitV G κ w e.val (q n)) ∧
    (∀ n, q n ≠ [] → ∃ e ∈ es.toList, e.key = .int .i64 (n : Nat)) ∧
    es.toList.Pairwise fun a b => ∀ k, spare a.val = some k → spare b.val ≠ some k
theorem WaitAt.ext {K : Nat → Prop} {G G' : Gh} {κ : Nat} {w w' : World} {m : Nat} {q : Nat → List (List UInt8)} (h : WaitAt G κ w m q) (hx : Ext K G w G' w') (hk : ¬ K κ) : WaitAt G' κ w' m q := by
  obtain ⟨es, clk, h1, h2, h3, h4, h5, h6⟩ := h
  refine ⟨es, clk, hx.heap h1 (by rw [h2]; exact hk), by rw [hx.own m (hx.lt h1)]; exact h2, h3, fun e he => ?_, h5, h6⟩
  obtain ⟨n, h7, h8⟩ := h4 e he
  exact ⟨n, h7, h8.ext hx hk⟩

/-- The disk at block p, of owner κ. -/
def DiskAt (G : Gh) (κ : Nat) (w : World) (p : Nat) (D : Dsk) : Prop :=
  D.Ok ∧ D.ops.length ≤ 1000000 ∧ ∃ vf vl vs m, w.heap[p]? = some (.cells #[vf, vl, vs, .map (some m)] 111 (0, 0)) ∧ G.own p = κ ∧ G.fix p = 0 ∧
    RowsAt G w vf D.first ∧ OpsAt G w vl D.ops ∧ SafeAt G κ w vs D.safe ∧ WaitAt G κ w m D.wait
theorem DiskAt.ext {K : Nat → Prop} {G G' : Gh} {κ : Nat} {w w' : World} {p : Nat} {D : Dsk} (h : DiskAt G κ w p D) (hx : Ext K G w G' w') (hk : ¬ K κ) : DiskAt G' κ w' p D := by
  obtain ⟨ho, hl, vf, vl, vs, m, h1, h2, h3, h4, h5, h6, h7⟩ := h
  have hp := hx.lt h1
  exact ⟨ho, hl, vf, vl, vs, m, hx.heap h1 (by rw [h2]; exact hk), by rw [hx.own p hp]; exact h2, by rw [hx.fixe p hp (by rw [h2]; exact hk)]; exact h3, h4.ext hx, h5.ext hx, h6.ext hx hk, h7.ext hx hk⟩
theorem DiskAt.grow {G : Gh} {κ : Nat} {w w' : World} {p : Nat} {D : Dsk} (h : DiskAt G κ w p D) (hg : Grow w w') : DiskAt G κ w' p D := h.ext (K := fun _ => False) (.grow hg) id
end Go.Proofs.YtienelpepioggaaGreat

/- Rules at maps: a range, an update, clear; and at calls through an interface or a function value. -/
namespace Go.Proofs.YtienelpepioggaaGreat
open Go
set_option linter.unusedSimpArgs false

section
variable {P : Program} {k : Kont} {e : Env} {w : World} {l : List GOp} {d : Option Nat}
theorem MapOk.nodup {es : List MapEntry} {clk : Nat} (h : MapOk es clk) : (es.map (·.born)).Nodup := by
  unfold List.Nodup; rw [List.pairwise_map]; exact h.born
theorem setObj_run {w : World} {r : Nat} {o : Obj} (o' : Obj) (hr : w.heap[r]? = some o) (ho : ∀ c t f, o ≠ .cells c t f) : ∃ w', (setObj r o').run P w = .ok () w' ∧ Keep (fun b => b = r) w w' ∧ w'.heap[r]? = some o' ∧ w'.heap.size = w.heap.size := by
  have hlt : r < w.heap.size := (Array.getElem?_eq_some_iff.1 hr).1
  refine ⟨{ w with heap := w.heap.setIfInBounds r o' }, by cases o <;> first | (exact absurd rfl (ho _ _ _)) | simp [setObj, Sem.run, hr], ⟨rfl, rfl, rfl, by simp, fun b hb hn => ?_⟩, by simp [hlt], by simp⟩
  simp [Array.getElem?_setIfInBounds, Ne.symm hn]
theorem range_rule {x : Operand} {t kt et ty : TypeId} {m clk : Nat} {es : Array MapEntry} (hx : ev e x = .map (some m)) (ht : P.underlying t = some (.map kt et)) (hm : w.heap[m]? = some (.map es clk))
    (h : R (symOps P l k (updO e d (.pointer (some ⟨w.heap.size, 0, none⟩))) (w.alloc (.mapIter (some m) clk #[] clk)))) : R (symOps P (⟨d, .hard (H (.range t x) ty), none⟩ :: l) k e w) :=
  hard_rule (by simp [execOp, H, hx, run_range_map w t kt et m es clk ht hm]) h
theorem next_rule {x : Operand} {ty : TypeId} {r m clk : Nat} {es : Array MapEntry} {seen : List Nat} (hx : ev e x = .pointer (some ⟨r, 0, none⟩)) (hr : w.heap[r]? = some (.mapIter (some m) clk seen.toArray clk)) (hm : w.heap[m]? = some (.map es clk)) (hok : MapOk es.toList clk)
    (hend : (∀ y ∈ es.toList, y.born ∈ seen) → R (symOps P l k (updO e d (.tuple #[.bool false])) w))
    (hone : ∀ y ∈ es.toList, y.born ∉ seen → ∀ w', Keep (fun b => b = r) w w' → w'.heap[r]? = some (.mapIter (some m) clk (seen ++ [y.born]).toArray clk) → R (symOps P l k (updO e d (.tuple #[.bool true, y.key, y.val])) w')) :
    R (symOps P (⟨d, .hard (H (.next x false) ty), none⟩ :: l) k e w) := by
  have key : ((∀ y ∈ es.toList, y.born ∈ seen) ∧ (Instr.next (.pointer (some ⟨r, 0, none⟩)) false ty).run P w = .ok (.tuple #[.bool false]) w) ∨
      ∃ y ∈ es.toList, y.born ∉ seen ∧ ∃ w', Keep (fun b => b = r) w w' ∧ w'.heap[r]? = some (.mapIter (some m) clk (seen ++ [y.born]).toArray clk) ∧ (Instr.next (.pointer (some ⟨r, 0, none⟩)) false ty).run P w = .ok (.tuple #[.bool true, y.key, y.val]) w' := by
    have ht := next_test_false seen.toArray es clk clk (fun y hy => hok.clk y hy) (Nat.le_refl _)
    simp only [Instr.next, getObj, Sem.run_bind, Sem.run, hr, hm, Result.andThen, ht, Bool.false_eq_true, if_false]
    have hL : ∀ y, y ∈ Array.filter (fun e => !seen.toArray.contains e.born) es ↔ y ∈ es.toList ∧ y.born ∉ seen := by intro y; simp
    generalize Array.filter (fun e => !seen.toArray.contains e.born) es = L at hL ⊢
    have hmem : ∀ y ∈ L, y.born < clk := fun y hy => hok.clk y ((hL y).1 hy).1
    have e1 : L.filter (fun x => decide (x.born < clk)) = L := Array.filter_eq_self.2 (fun x hx => by simpa using hmem x hx)
    have e2 : L.filter (fun x => decide (x.born ≥ clk)) = #[] := by
      rw [Array.filter_eq_empty_iff]; intro x hx; have := hmem x hx; simp; omega
    simp only [e1, e2, Array.append_empty]
    by_cases h0 : L.size = 0
    · left
      have hL0 : L = #[] := Array.eq_empty_of_size_eq_zero h0
      subst hL0
      refine ⟨fun y hy => Classical.byContradiction fun hn => by simpa using (hL y).2 ⟨hy, hn⟩, ?_⟩
      simp [choose, Sem.run, Question.forced]
    · right
      have hne : L.isEmpty = false := by simp [Array.isEmpty, h0]
      simp only [hne, Bool.false_eq_true, if_false, Array.empty_append, Array.size_map]
      have hch : ∃ (j : Nat) (w1 : World), j < L.size ∧ Keep (fun b => b = r) w w1 ∧ w1.heap = w.heap ∧ (choose (Question.mapNext L.size)).run P w = .ok j w1 := by
        by_cases hf : L.size ≤ 1
        · exact ⟨0, w, by omega, Keep.refl _ _, rfl, by simp [choose, Sem.run, Question.forced, hf]⟩
        · exact ⟨_, w.drew, Nat.mod_lt _ (by omega), (Keep.refl _ _).drew, rfl, by
            simp only [choose, Sem.run, Question.forced, decide_eq_true_eq, hf, if_false, Question.cut]
            rfl⟩
      obtain ⟨j, w1, hj, hal, hh, hrun⟩ := hch
      obtain ⟨w2, hs, hk, hr2, _⟩ := setObj_run (P := P) (.mapIter (some m) clk (seen ++ [L[j].born]).toArray clk) (show w1.heap[r]? = _ by rw [hh]; exact hr) (by simp)
      have hin := (hL L[j]).1 (by simp)
      refine ⟨L[j], hin.1, hin.2, w2, hal.trans hk, hr2, ?_⟩
      have hpush : seen.toArray.push L[j].born = (seen ++ [L[j].born]).toArray := by simp
      simp only [hrun, Array.getElem?_map, Array.getElem?_eq_getElem hj, Option.map_some, Sem.run_bind, hpush, hs, Result.andThen]
      rfl
  rcases key with ⟨h1, h2⟩ | ⟨y, hy, hn, w', hk, hr', h2⟩
  · exact hard_rule (by simp only [execOp, H, hx, Sem.run_bind, h2, Result.andThen_ok]; rfl) (hend h1)
  · exact hard_rule (by simp only [execOp, H, hx, Sem.run_bind, h2, Result.andThen_ok]; rfl) (hone y hy hn w' hk hr')
theorem entry_rule {x : Operand} {ty : TypeId} {r m clk : Nat} {es : Array MapEntry} {seen : List Nat} {y : MapEntry} (hx : ev e x = .pointer (some ⟨r, 0, none⟩)) (hr : w.heap[r]? = some (.mapIter (some m) clk (seen ++ [y.born]).toArray clk)) (hm : w.heap[m]? = some (.map es clk)) (hok : MapOk es.toList clk) (hy : y ∈ es.toList)
    (h : R (symOps P l k (updO e d (.tuple #[y.key, y.val])) w)) : R (symOps P (⟨d, .hard (H (.entry x) ty), none⟩ :: l) k e w) := by
  have hf : es.find? (·.born == y.born) = some y := by rw [← Array.find?_toList]; exact find_born y es.toList hok.nodup hy
  refine hard_rule ?_ h
  simp [execOp, H, hx, Instr.entry, getObj, Sem.run, hr, hm, Result.andThen, hf]

/-- A map's keys are of this kind of integer. -/
def IntKeyed (kk : IntKind) (es : List MapEntry) : Prop := ∀ y ∈ es, ∃ n, y.key = .int kk n
theorem findNow_i {kk kd : IntKind} {n : Int} : ∀ {es : List MapEntry} {i : Nat}, IntKeyed kk es →
    ((∀ y ∈ es, y.key ≠ .int kk n) ∧ Instr.findNow (.int kd) (.int kk n) es i = some none) ∨ ∃ j y, es[j]? = some y ∧ y.key = .int kk n ∧ Instr.findNow (.int kd) (.int kk n) es i = some (some (i + j, y.val))
  | [], _, _ => .inl ⟨by simp, rfl⟩
  | y :: es, i, h => by
    obtain ⟨m, hm⟩ := h y (by simp)
    by_cases hn : n = m
    · subst hn
      exact .inr ⟨0, y, rfl, hm, by simp [Instr.findNow, Instr.sameNow, hm]⟩
    · have hf : Instr.findNow (.int kd) (.int kk n) (y :: es) i = Instr.findNow (.int kd) (.int kk n) es (i + 1) := by
        have hb : (n == m) = false := by simpa using hn
        simp [Instr.findNow, Instr.sameNow, hm, hb]
      rw [hf]
      rcases findNow_i (kd := kd) (n := n) (es := es) (i := i + 1) (fun z hz => h z (by simp [hz])) with ⟨h1, h2⟩ | ⟨j, z, h1, h2, h3⟩
      · refine .inl ⟨fun z hz => ?_, h2⟩
        rcases List.mem_cons.1 hz with rfl | hz
        · rw [hm]; intro hc; cases hc; exact hn rfl
        · exact h1 z hz
      · exact .inr ⟨j + 1, z, by simpa using h1, h2, by rw [h3]; congr 3; omega⟩
theorem check_int {kt : TypeId} {kk kd : IntKind} (hkt : P.underlying kt = some (.int kd)) (f : Nat) (n : Int) (w0 : World) : (Instr.checkKey false (f + 1) kt (.int kk n)).run P w0 = .ok () w0 := by simp [Instr.checkKey, run_underlying hkt]
theorem sameBits_i {kk : IntKind} {n : Int} : ∀ f, Instr.sameBits f (.int kk n) (.int kk n) = true := by intro f; cases f <;> simp [Instr.sameBits]
/-- An update: the entry is there, or it is new. -/
theorem put_rule {xm xk xv : Operand} {t kt et ty : TypeId} {kk kd : IntKind} {m clk : Nat} {n : Int} {v : Value} {es : Array MapEntry} (hxm : ev e xm = .map (some m)) (hxk : ev e xk = .int kk n) (hxv : ev e xv = v)
    (ht : P.underlying t = some (.map kt et)) (hkt : P.underlying kt = some (.int kd)) (hm : w.heap[m]? = some (.map es clk)) (hki : IntKeyed kk es.toList)
    (hnew : (∀ y ∈ es.toList, y.key ≠ .int kk n) → ∀ w', Keep (fun b => b = m) w w' → w'.heap[m]? = some (.map (es.push ⟨.int kk n, v, clk⟩) (clk + 1)) → R (symOps P l k (updO e d undef) w'))
    (hold : ∀ j y, es.toList[j]? = some y → y.key = .int kk n → ∀ w', Keep (fun b => b = m) w w' → w'.heap[m]? = some (.map (es.setIfInBounds j { y with val := v }) clk) → R (symOps P l k (updO e d undef) w')) :
    R (symOps P (⟨d, .hard (H (.mapUpdate t xm xk xv) ty), none⟩ :: l) k e w) := by
  have go : ∀ w', (Instr.mapUpdate t (.map (some m)) (.int kk n) v).run P w = .ok () w' → R (symOps P l k (updO e d undef) w') → R (symOps P (⟨d, .hard (H (.mapUpdate t xm xk xv) ty), none⟩ :: l) k e w) := fun w' hr h => by
    refine Or.inl ?_
    have : (execOp (ev e) (H (.mapUpdate t xm xk xv) ty)).run P w = .ok .skip w' := by simp only [execOp, H, hxm, hxk, hxv, Sem.run_bind, hr, Result.andThen_ok]; rfl
    rw [this]; exact h
  have hchk : ∀ w0 : World, (Instr.checkKey false 10000 kt (.int kk n)).run P w0 = .ok () w0 := fun w0 => check_int hkt 9999 n w0
  rcases findNow_i (kd := kd) (n := n) (i := 0) hki with ⟨h1, h2⟩ | ⟨j, y, h1, h2, h3⟩
  · obtain ⟨w', hs, hk, hm', _⟩ := setObj_run (P := P) (.map (es.push ⟨.int kk n, v, clk⟩) (clk + 1)) hm (by simp)
    refine go w' ?_ (hnew h1 w' hk hm')
    simp [Instr.mapUpdate, run_underlying ht, MapKept.run_getObj_map hm, hchk, Instr.findKey, run_underlying hkt, h2, hs]
  · have hj : j < es.size := by have := (List.getElem?_eq_some_iff.1 h1).1; simpa using this
    have hjy : es[j] = y := by have := (List.getElem?_eq_some_iff.1 h1).2; simpa using this
    obtain ⟨w', hs, hk, hm', _⟩ := setObj_run (P := P) (.map (es.setIfInBounds j { y with val := v }) clk) hm (by simp)
    refine go w' ?_ (hold j y h1 h2 w' hk hm')
    rw [h2] at hs
    have hmod : (es.modify j fun e => { key := .int kk n, val := v, born := e.born }) = es.setIfInBounds j { key := .int kk n, val := v, born := y.born } := by
      apply Array.ext
      · simp
      · intro i hi1 hi2
        simp only [Array.size_modify] at hi1
        simp only [Array.getElem_modify, Array.getElem_setIfInBounds hi1]
        by_cases hij : j = i
        · subst hij; simp [hjy, ← h2]
        · simp [hij]
    simp [Instr.mapUpdate, run_underlying ht, MapKept.run_getObj_map hm, hchk, Instr.findKey, run_underlying hkt, h3, Instr.keyThatStays, Array.getElem?_eq_getElem hj, hjy, h2, sameBits_i, hmod, hs]
theorem clear_rule {x : Operand} {t kt et ty : TypeId} {m clk : Nat} {es : Array MapEntry} (hx : ev e x = .map (some m)) (ht : P.underlying t = some (.map kt et)) (hm : w.heap[m]? = some (.map es clk))
    (h : ∀ w', Keep (fun b => b = m) w w' → w'.heap[m]? = some (.map #[] clk) → R (symOps P l k (updO e d (.tuple #[])) w')) :
    R (symOps P (⟨d, .hard (H (.call { callee := .builtin .clear, args := #[x], argTypes := #[t] }) ty), none⟩ :: l) k e w) := by
  obtain ⟨w', hs, hk, hm', _⟩ := setObj_run (P := P) (.map #[] clk) hm (by simp)
  exact hard_rule (run_builtin (vs := [.map (some m)]) (by simp [hx]) (fun cs => by simp [builtin, Builtin.clear_, run_underlying ht, MapKept.run_getObj_map hm, hs])) (h w' hk hm')

/-- A method that the type itself has, by value. -/
def methFn (P : Program) (t : TypeId) (name : String) : Option FuncId :=
  match P.info? t with
  | some i => match i.methods.find? (·.name == name) with
    | some m => match m.path.toList, m.func, P.underlying t with
      | [], some (f, false), some d => match d with | .pointer _ => none | _ => if callable P f then some f else none
      | _, _, _ => none
    | none => none
  | none => none
theorem methFn_spec {t : TypeId} {name : String} {f : FuncId} (h : methFn P t name = some f) : callable P f = true ∧ ∃ i m dd, P.info? t = some i ∧ i.methods.find? (·.name == name) = some m ∧ m.path.toList = [] ∧ m.func = some (f, false) ∧ P.underlying t = some dd ∧ ∀ q, dd ≠ .pointer q := by
  unfold methFn at h
  split at h
  · rename_i i hi
    split at h
    · rename_i m hm
      split at h
      · rename_i f' dd hp hf hd
        split at h
        · cases h
        · rename_i hnp
          split at h
          · rename_i hc; cases h; exact ⟨hc, i, m, dd, hi, hm, hp, hf, hd, hnp⟩
          · cases h
      · cases h
    · cases h
  · cases h
theorem run_method {t : TypeId} {name : String} {f : FuncId} (h : methFn P t name = some f) (n : Nat) (u : Value) (w : World) : (method (n + 1) t u name).run P w = .ok (f, u) w := by
  obtain ⟨_, i, m, dd, hi, hm, hp, hf, hd, hnp⟩ := methFn_spec h
  have hr : ∀ o, (receiverAt t (.val u) false o).run P w = .ok u w := fun o => by
    cases dd with
    | pointer q => exact absurd rfl (hnp q)
    | _ => simp [receiverAt, run_underlying hd, Place.get]
  simp [method, typeInfo, hi, hm, hp, follow, hf, hr]
theorem nilM_ok {t : TypeId} {name : String} {f : FuncId} (h : methFn P t name = some f) (u : Value) : nilMOK P t u name := by
  obtain ⟨_, i, m, dd, hi, hm, hp, hf, hd, hnp⟩ := methFn_spec h
  have : ∀ (n : Nat) w, (nilAhead (n + 1) t u name).run P w = .ok (some false) w := by
    intro n w
    cases dd with
    | pointer q => exact absurd rfl (hnp q)
    | _ => simp [nilAhead, typeInfo, hi, hm, hp, followBlind, hf, run_underlying hd]
  exact fun w => this (P.types.size + 99) w
theorem run_callFunc {f : FuncId} {args : Array Value} (hc : callable P f = true) : (callFunc f args).run P w = .ok (.enter f args) w := by
  unfold callable at hc
  cases hf : P.funcs[f]? with
  | none => simp [hf] at hc
  | some fn =>
    simp only [hf, Bool.and_eq_true, Bool.not_eq_true'] at hc
    have hn : ¬ ((fn.name == "runtime.NumGoroutine") = true) := by rw [hc.1]; simp
    have hb : ¬ (fn.body.isNone = true) := by cases hb : fn.body <;> simp [hb] at hc ⊢
    simp only [callFunc, Sem.run_bind, run_program, Result.andThen_ok, hf, hn, hb, if_false, Bool.false_eq_true]
    simp
theorem enter_rule {o : Oper} {f : FuncId} {vs : List Value} {Φ : Value → World → Prop} (hr : (execOp (ev e) o).run P w = .ok (.enter f vs.toArray) w) (hc : Calls P f vs.toArray w (Ret Φ))
    (h : ∀ v w', Φ v w' → R (symOps P l k (updO e d v) w')) : R (symOps P (⟨d, .hard o, none⟩ :: l) k e w) := by
  refine Or.inl ?_
  rw [hr]
  exact call0 (l := l) (k := k) (d := d) (e := e) hc h
/-- A call through an interface. -/
theorem invoke_rule {x : Operand} {args : Array Operand} {ts : Array TypeId} {ty t : TypeId} {name : String} {f : FuncId} {u : Value} {vs : List Value} {Φ : Value → World → Prop} (hf : methFn P t name = some f) (hx : ev e x = .iface t u) (hv : args.toList.map (ev e) = vs)
    (hc : Calls P f (u :: vs).toArray w (Ret Φ)) (h : ∀ v w', Φ v w' → R (symOps P l k (updO e d v) w')) :
    R (symOps P (⟨d, .hard (H (.call { callee := .invoke x name, args := args, argTypes := ts }) ty), none⟩ :: l) k e w) := by
  refine enter_rule ?_ hc h
  subst hv
  have hm := run_method hf (P.types.size + 99) u w
  rw [show P.types.size + 99 + 1 = P.types.size + Made.depth from rfl] at hm
  have hargs : args.map (ev e) = (args.toList.map (ev e)).toArray := by rw [← Array.toList_map, Array.toArray_toList]
  simp only [execOp, H, resolve, hx, Sem.run_bind, Sem.run_pure, Result.andThen_ok, invoke, callMethod, run_program, hm]
  simp [callMethod, hm, run_callFunc (methFn_spec hf).1, hargs, List.take_of_length_le]
/-- A call of a function value. -/
theorem fval_rule {x : Operand} {args : Array Operand} {ts : Array TypeId} {ty : TypeId} {f : FuncId} {vs : List Value} {Φ : Value → World → Prop} (hf : callable P f = true) (hx : ev e x = .func (.func f) #[] #[]) (hv : args.toList.map (ev e) = vs)
    (hc : Calls P f vs.toArray w (Ret Φ)) (h : ∀ v w', Φ v w' → R (symOps P l k (updO e d v) w')) :
    R (symOps P (⟨d, .hard (H (.call { callee := .value x, args := args, argTypes := ts }) ty), none⟩ :: l) k e w) := by
  refine enter_rule ?_ hc h
  subst hv
  have hargs : args.map (ev e) = (args.toList.map (ev e)).toArray := by rw [← Array.toList_map, Array.toArray_toList]
  simp only [execOp, H, resolve, hx, Deferred.ofValue, Sem.run_bind, Sem.run_pure, Result.andThen_ok, invoke]
  simp [run_callFunc hf, hargs]
end

/-- A key among entries whose keys are apart. -/
theorem findInt_eq {kk : IntKind} {n : Int} : ∀ {es : List MapEntry} {y : MapEntry}, IntKeyed kk es → (es.Pairwise fun a b => a.key ≠ b.key) → y ∈ es → y.key = .int kk n → findInt kk n es = some y.val
  | x :: es, y, hi, hp, hy, hk => by
    obtain ⟨m, hm⟩ := hi x (by simp)
    by_cases hn : n = m
    · subst hn
      rcases List.mem_cons.1 hy with rfl | hy
      · simp [findInt, hm]
      · exact absurd (hm.trans hk.symm) ((List.pairwise_cons.1 hp).1 y hy)
    · rcases List.mem_cons.1 hy with rfl | hy
      · rw [hm] at hk; cases hk; exact absurd rfl hn
      · simp only [findInt, hm, if_neg hn]
        exact findInt_eq (fun z hz => hi z (by simp [hz])) (List.pairwise_cons.1 hp).2 hy hk
theorem findInt_none {kk : IntKind} {n : Int} : ∀ {es : List MapEntry}, IntKeyed kk es → (∀ y ∈ es, y.key ≠ .int kk n) → findInt kk n es = none
  | [], _, _ => rfl
  | x :: es, hi, h => by
    obtain ⟨m, hm⟩ := hi x (by simp)
    have hn : n ≠ m := fun hc => h x (by simp) (by rw [hm, hc])
    simp only [findInt, hm, if_neg hn]
    exact findInt_none (fun z hz => hi z (by simp [hz])) (fun y hy => h y (by simp [hy]))
theorem intKeyed_ok {kk : IntKind} {es : List MapEntry} (h : IntKeyed kk es) : intKeys kk es = true := by
  simp only [intKeys, List.all_eq_true]
  intro y hy
  obtain ⟨n, hn⟩ := h y hy
  simp [hn]
theorem lkp_eq {w : World} {z v : Value} {m clk : Nat} {kk : IntKind} {n : Int} {es : Array MapEntry} (hm : w.heap[m]? = some (.map es clk)) (hi : IntKeyed kk es.toList) (hf : findInt kk n es.toList = some v) : lkpV w z false (.map (some m)) (.int kk n) = some v := by
  simp [lkpV, hm, intKeyed_ok hi, hf]
theorem lkp_none {w : World} {z : Value} {m clk : Nat} {kk : IntKind} {n : Int} {es : Array MapEntry} (hm : w.heap[m]? = some (.map es clk)) (hi : IntKeyed kk es.toList) (hf : findInt kk n es.toList = none) : lkpV w z false (.map (some m)) (.int kk n) = some z := by
  simp [lkpV, hm, intKeyed_ok hi, hf]
end Go.Proofs.YtienelpepioggaaGreat

/- More of ghosts; append where there is no room, and where there is. -/
namespace Go.Proofs.YtienelpepioggaaGreat
open Go
set_option linter.unusedSimpArgs false
def Gh.at (G : Gh) (g o f : Nat) : Gh := ⟨fun b => if b = g then o else G.own b, fun b => if b = g then f else G.fix b⟩
theorem Gh.at_own {G : Gh} {g o f : Nat} : (G.at g o f).own g = o := by simp [Gh.at]
theorem Gh.at_fix {G : Gh} {g o f : Nat} : (G.at g o f).fix g = f := by simp [Gh.at]
theorem Gh.at_own' {G : Gh} {g o f b : Nat} (h : b ≠ g) : (G.at g o f).own b = G.own b := by simp [Gh.at, h]
theorem Gh.at_fix' {G : Gh} {g o f b : Nat} (h : b ≠ g) : (G.at g o f).fix b = G.fix b := by simp [Gh.at, h]
section
variable {κ : Nat} {K : Nat → Prop} {G : Gh} {w w' : World}
theorem Ext.upd {g f : Nat} (hk : Keep (fun b => b = g) w w') (ho : g < w.heap.size → G.own g = κ ∧ G.fix g ≤ f) (hpre : g < w.heap.size → ∀ i v, i < G.fix g → w.cell? ⟨g, i, none⟩ = some v → w'.cell? ⟨g, i, none⟩ = some v) :
    Ext (fun c => c = κ) G w (G.at g κ f) w' := by
  have hne : ∀ b, b < w.heap.size → ¬ G.own b = κ → b ≠ g := fun b hb hn he => hn (he ▸ (ho (he ▸ hb)).1)
  refine ⟨hk.os, hk.tape, hk.output, hk.size, fun b hb => ?_, fun b hb => ?_, fun b hb hn => Gh.at_fix' (hne b hb hn), fun b hb hn => hk.blk b hb (hne b hb hn), fun b i v hb hi hc => ?_⟩
  · by_cases h : b = g
    · subst h; rw [Gh.at_own, (ho hb).1]
    · exact Gh.at_own' h
  · by_cases h : b = g
    · subst h; rw [Gh.at_fix]; exact (ho hb).2
    · exact Nat.le_of_eq (Gh.at_fix' h).symm
  · by_cases h : b = g
    · subst h; exact hpre hb i v hi hc
    · exact hk.cell hc h
theorem Ext.one {g : Nat} (hk : Keep (fun b => b = g) w w') (ho : g < w.heap.size → G.own g = κ) (hpre : g < w.heap.size → ∀ i v, i < G.fix g → w.cell? ⟨g, i, none⟩ = some v → w'.cell? ⟨g, i, none⟩ = some v) :
    Ext (fun c => c = κ) G w G w' := by
  refine ⟨hk.os, hk.tape, hk.output, hk.size, fun b hb => rfl, fun b hb => Nat.le_refl _, fun b hb hn => rfl, fun b hb hn => hk.blk b hb (fun he => hn (he ▸ ho (he ▸ hb))), fun b i v hb hi hc => ?_⟩
  by_cases h : b = g
  · subst h; exact hpre hb i v hi hc
  · exact hk.cell hc h
/-- A map's block: it has no cells. -/
theorem Ext.onMap {m clk : Nat} {es : Array MapEntry} (hm : w.heap[m]? = some (.map es clk)) (hk : Keep (fun b => b = m) w w') (ho : G.own m = κ) : Ext (fun c => c = κ) G w G w' :=
  .one hk (fun _ => ho) (fun _ i v _ hc => by simp [World.cell?, hm] at hc)
/-- A block of which nothing is fixed. -/
theorem Ext.on0 {g : Nat} (hk : Keep (fun b => b = g) w w') (ho : G.own g = κ) (hf : G.fix g = 0) : Ext (fun c => c = κ) G w G w' :=
  .one hk (fun _ => ho) (fun _ i v hi _ => by omega)
theorem Ext.fresh {g o f : Nat} (h : Grow w w') (hg : w.heap.size ≤ g) : Ext K G w (G.at g o f) w' := .ofGrow h (fun b hb => Gh.at_own' (by omega)) (fun b hb => Gh.at_fix' (by omega))
theorem WaitV.keep {v : Value} {ls : List (List UInt8)} {G' : Gh} (h : WaitV G κ w v ls) (hx : Ext K G w G' w') (hs : ∀ b, spare v = some b → w'.heap[b]? = w.heap[b]? ∧ G'.fix b = G.fix b) : WaitV G' κ w' v ls := by
  obtain ⟨vs, b, c, rfl, h1, h2, h3, h4⟩ := h
  refine ⟨vs, b, c, rfl, h1.ext hx, h2.ext hx, h3, fun hlt => ?_⟩
  obtain ⟨h5, h6, h7⟩ := h4 hlt
  have hb : b < w.heap.size := (World.ownsRow.lt h7 b rfl).2
  obtain ⟨h8, h9⟩ := hs b (by simp [spare, hlt])
  refine ⟨by rw [hx.own b hb]; exact h5, by rw [h9]; exact h6, ?_⟩
  obtain ⟨h10, ⟨h, _⟩ | ⟨g, cap, cur, hv, h11, h12, h13⟩⟩ := h7
  · cases h
  · refine ⟨h10, .inr ⟨g, cap, cur, hv, h11, ?_, h13⟩⟩
    cases hv
    rw [h8]; exact h12
theorem WaitV.spare {v : Value} {ls : List (List UInt8)} (h : WaitV G κ w v ls) {b : Nat} (hb : spare v = some b) : b < w.heap.size ∧ G.own b = κ ∧ G.fix b = ls.length ∧ 0 < ls.length ∧ ∃ c, w.heap[b]? = some (.cells c 46 (0, 0)) := by
  obtain ⟨vs, b', c, rfl, h1, h2, h3, h4⟩ := h
  simp only [Go.Proofs.YtienelpepioggaaGreat.spare] at hb
  split at hb
  · rename_i hlt
    cases hb
    obtain ⟨h5, h6, h7⟩ := h4 hlt
    refine ⟨(World.ownsRow.lt h7 b rfl).2, h5, h6, List.length_pos_iff.2 h3, ?_⟩
    obtain ⟨_, ⟨h, _⟩ | ⟨g, cap, cur, hv, _, h12, _⟩⟩ := h7
    · cases h
    · cases hv; exact ⟨cur, h12⟩
  · cases hb
theorem WaitV.has {v : Value} {ls : List (List UInt8)} (h : WaitV G κ w v ls) : ∃ vs, HasF G w v vs ∧ RowsF G w vs ls := by
  obtain ⟨vs, b, c, rfl, h1, h2, _⟩ := h; exact ⟨vs, h1, h2⟩
end

section rules
variable {P : Program} {k : Kont} {e : Env} {w : World} {l : List GOp} {d : Option Nat}
/-- append of one, where there is no room. -/
theorem app_full {x y : Operand} {t el ty : TypeId} {bytes : Nat} {z v u q : Value} {xs : List Value} (he : ElemIs P t el 1 bytes z) (hx : ev e x = v) (hy : ev e y = u) (hv : Has 1 w v xs) (hfull : ∀ a n c, v = .slice (some a) n c → n = c)
    (hsrc : Has 1 w u [q]) (hq : isCell q = true) (hbytes : (xs.length + 1) * bytes ≤ 140737488355328) (h63 : xs.length + 1 ≤ 140737488355328)
    (h : ∀ c w', Grow w w' → w'.ownsRow w.heap.size el 1 (.slice (some ⟨w.heap.size, 0, none⟩) (xs.length + 1) c) (xs.length + 1) (xs ++ [q]) → R (symOps P l k (updO e d (.slice (some ⟨w.heap.size, 0, none⟩) (xs.length + 1) c)) w')) :
    R (symOps P (⟨d, .hard (H (.call { callee := .builtin .append, args := #[x, y], argTypes := #[t, t] }) ty), none⟩ :: l) k e w) := by
  obtain ⟨i, hi, hz, hsz, hby⟩ := he.hi
  have hs : Src P i.size t u 1 [q] w := by
    have := hsrc.src (P := P) he.ht (by omega) (by simpa using hq)
    rw [hsz]; simpa using this
  have fin : ∀ old, old < xs.length + 1 → (w.drew.alloc (.cells ((xs ++ [q]).toArray ++ Builtin.zeroCells z.cells (grownCap w (xs.length + 1) old el - (xs.length + 1))) el)).ownsRow w.heap.size el 1 (.slice (some ⟨w.heap.size, 0, none⟩) (xs.length + 1) (grownCap w (xs.length + 1) old el)) (xs.length + 1) (xs ++ [q]) := by
    intro old ho
    have hge := grownCap_ge w (xs.length + 1) old el
    have hcm : grownCap w (xs.length + 1) old el ≤ maxLen := grownCap_le_maxLen w (xs.length + 1) old el (by unfold maxLen; omega)
    refine ⟨by simp, .inr ⟨w.heap.size, _, _, rfl, Nat.le_refl _, heap_alloc_new w.drew _, hge, hcm, ?_, ?_⟩⟩
    · simp only [Array.size_append, List.size_toArray, size_zeroCells, he.hz, List.length_append, List.length_singleton]; omega
    · rw [Nat.mul_one, Array.toList_append]
      exact List.take_left' (by simp)
  rcases hv with ⟨b, o, n, c, rfl, h1, h2, h3⟩ | ⟨rfl, rfl⟩
  · have hnc := hfull _ _ _ rfl
    subst hnc
    rw [Nat.mul_one] at h1
    rw [h1] at fin h hbytes h63
    have hold : (Builtin.firstCells i.size n (.slice (some ⟨b, o, none⟩) n n)).run P w.drew = .ok xs.toArray w.drew :=
      run_firstCells_some (P := P) w.drew i.size n ⟨b, o, none⟩ n n xs (by rw [hsz]; omega) (fun j u hj => by rw [add_lit]; exact h3 j u hj)
    have hr := run_append_grow_src (P := P) w t t ty el i z he.ht hi hz (some ⟨b, o, none⟩) n n xs hold u 1 [q] hs (by omega) (by omega) (growslice_fits (by omega) (by rw [hby]; exact hbytes))
    exact hard_rule (run_builtin (vs := [.slice (some ⟨b, o, none⟩) n n, u]) (by simp [hx, hy]) (fun cs => by simp [builtin, hr])) (h _ _ ((Keep.refl _ _).drew.alloc _) (fin n (by omega)))
  · have hold : (Builtin.firstCells i.size 0 (.slice none 0 0)).run P w.drew = .ok #[] w.drew := by simp [Builtin.firstCells]
    have hr := run_append_grow_src (P := P) w t t ty el i z he.ht hi hz none 0 0 [] hold u 1 [q] hs (by omega) (by omega) (growslice_fits (by omega) (by rw [hby]; simpa using hbytes))
    exact hard_rule (run_builtin (vs := [.slice none 0 0, u]) (by simp [hx, hy]) (fun cs => by simp [builtin, hr])) (h _ _ ((Keep.refl _ _).drew.alloc _) (fin 0 (by omega)))
/-- append of one, where there is room. -/
theorem app_room {x y : Operand} {t el ty : TypeId} {bytes g cap : Nat} {z u q : Value} {xs : List Value} {B : Nat} (he : ElemIs P t el 1 bytes z) (hx : ev e x = .slice (some ⟨g, 0, none⟩) xs.length cap) (hy : ev e y = u)
    (hv : w.ownsRow B el 1 (.slice (some ⟨g, 0, none⟩) xs.length cap) xs.length xs) (hr : xs.length < cap) (hsrc : Has 1 w u [q]) (hq : isCell q = true)
    (h : ∀ w', Keep (fun b => b = g) w w' → w'.ownsRow B el 1 (.slice (some ⟨g, 0, none⟩) (xs.length + 1) cap) (xs.length + 1) (xs ++ [q]) → R (symOps P l k (updO e d (.slice (some ⟨g, 0, none⟩) (xs.length + 1) cap)) w')) :
    R (symOps P (⟨d, .hard (H (.call { callee := .builtin .append, args := #[x, y], argTypes := #[t, t] }) ty), none⟩ :: l) k e w) := by
  obtain ⟨i, hi, hz, hsz, hby⟩ := he.hi
  obtain ⟨h0, ⟨h, _⟩ | ⟨g', cap', cur, hvv, h2, h3, h4, h5, h6, h7⟩⟩ := hv
  · cases h
  cases hvv
  rcases hsrc with ⟨b, o, n, c, rfl, s1, s2, s3⟩ | ⟨s1, _⟩
  · have hn : n = 1 := by simpa using s1.symm
    subst hn
    have hrun := run_append_room (P := P) w t ty el i he.ht hi g xs.length cap cur h3 ⟨b, o, none⟩ 1 c [q] (by simp [hsz]) (fun j u hj => by rw [add_lit]; exact s3 j u hj) (fun u hu => isCell_one (by simp at hu; subst hu; exact hq)) (by omega) (by simp [hsz]; omega)
    have hrr := setRow_heap w g cur ((List.take (xs.length * i.size) cur.toList ++ [q] ++ List.drop (xs.length * i.size + [q].length) cur.toList).toArray) el (0, 0) h3
    have hkk : Keep (fun b => b = g) w (w.setRow g ((List.take (xs.length * i.size) cur.toList ++ [q] ++ List.drop (xs.length * i.size + [q].length) cur.toList).toArray)) := ⟨rfl, rfl, rfl, by simp, fun k _ hk => setRow_other w g k _ hk⟩
    generalize w.setRow g ((List.take (xs.length * i.size) cur.toList ++ [q] ++ List.drop (xs.length * i.size + [q].length) cur.toList).toArray) = w' at hrun hrr hkk
    refine hard_rule (run_builtin (vs := [.slice (some ⟨g, 0, none⟩) xs.length cap, .slice (some ⟨b, o, none⟩) 1 c]) (by simp [hx, hy]) (fun cs => by simp only [builtin, Sem.run_bind, hrun, Result.andThen_ok]; rfl)) (h _ hkk ?_)
    refine ⟨by simp, .inr ⟨g, cap, _, rfl, h2, hrr, by omega, h5, ?_, ?_⟩⟩
    · simp [hsz]; omega
    · have h7' : cur.toList.take xs.length = xs := by simpa using h7
      simp only [hsz, Nat.mul_one, h7', ← List.append_assoc]
      exact List.take_left' (by simp)
  · cases s1
end rules
end Go.Proofs.YtienelpepioggaaGreat

/- The plain code of the seat's functions, each held against the program by the kernel. PRINTED by a program of this session (wip/printcode.py). -/
namespace Go.Proofs.YtienelpepioggaaGreat
open Go
set_option maxRecDepth 100000
noncomputable def PL129_0 : Plan := (.take ⟨(some 4), (.mv (.tmp 1)), none⟩ (.take ⟨(some 5), (.nilc (.tmp 4)), none⟩ (.take ⟨(some 6), (.fa 1 (.tmp 5)), none⟩ (.take ⟨(some 7), (.ld (.tmp 6)), none⟩ (.take ⟨(some 8), (.fa 0 (.tmp 2)), none⟩ (.take ⟨(some 9), (.ld (.tmp 8)), none⟩ (.take ⟨(some 10), (.mv (.tmp 1)), none⟩ (.take ⟨(some 11), (.nilc (.tmp 10)), none⟩ (.take ⟨(some 12), (.fa 1 (.tmp 11)), none⟩ (.take ⟨(some 13), (.ld (.tmp 12)), none⟩ (.take ⟨(some 14), (.fa 0 (.tmp 2)), none⟩ (.take ⟨(some 15), (.ld (.tmp 14)), none⟩ (.take ⟨(some 16), (.lkp .i64 (.slice none 0 0) (.tmp 13) (.tmp 15) false), none⟩ (.take ⟨(some 17), (.fa 1 (.tmp 2)), none⟩ (.take ⟨(some 18), (.ld (.tmp 17)), none⟩ (.alt false ⟨(some 19), (.bsl 46 #[(.slice none 0 0)] 1 [(0, (1, (.tmp 18)))]), none⟩ (.alt false ⟨(some 20), (.hard (H (.call (Go.Call.mk (.builtin .append) #[(.tmp 16), (.tmp 19)] #[53, 53])) 53)), none⟩ (.alt true ⟨none, (.hard (H (.mapUpdate 106 (.tmp 7) (.tmp 9) (.tmp 20)) 0)), none⟩ .done .stop) .stop) .stop))))))))))))))))
theorem draw129_0 {k : Kont} {e : Env} {w : World} (X : Nat → Prop) (h : R (planS Tryz.prog X w.drew k PL129_0 e w.drew)) : R (symS 21 Tryz.prog (.raw (rawOf Tryz.f129 0)) k e w) := draw_rule X (by kernel_rfl) (by kernel_rfl) (by kernel_rfl) h
noncomputable def F129 : SCode := (.seq (.ops [⟨(some 2), (.box 142 (.tmp 0)), none⟩]) (.raw (rawOf Tryz.f129 0)))
theorem F129_eq : toS Tryz.prog (bodyOf Tryz.f129) = F129 := by kernel_rfl
theorem enter129 {Φ : Value → World → Prop} {Ψ : List PanicEntry → World → Prop} {w : World} (v0 v1 : Value) (h : symS 21 Tryz.prog F129 ⟨fun e w => Φ (oneOf []) w, fun _ _ _ => False, fun e w => Φ (oneOf []) w, Ψ⟩ (upd (upd env0 0 v0) 1 v1) w) : Calls Tryz.prog 129 #[v0, v1] w (Out Φ Ψ) :=
  calls_sym (args := [v0, v1]) 21 [] Tryz.func129 (by kernel_rfl) (by kernel_rfl) (by decide) (by kernel_rfl) (by kernel_rfl) (by simp) F129_eq h
noncomputable def F130_L0 : SCode := (.seq (.ops [⟨(some 11), (.hard (H (.next (.tmp 10) false) 0)), none⟩, ⟨(some 12), (.ext (.tmp 11) 0), none⟩]) (.seq (.cond (.tmp 12) .skip (.exit 0)) (.block 1 (.seq (.ops [⟨(some 13), (.hard (H (.entry (.tmp 10)) 0)), none⟩, ⟨(some 14), (.ext (.tmp 13) 0), none⟩, ⟨(some 15), (.ext (.tmp 13) 1), none⟩, ⟨(some 4), (.mv (.tmp 14)), none⟩, ⟨(some 5), (.mv (.tmp 15)), none⟩]) (.raw (rawOf Tryz.f130 0))))))
noncomputable def PL130_0 : Plan := (.take ⟨(some 16), (.mv (.tmp 1)), none⟩ (.take ⟨(some 17), (.nilc (.tmp 16)), none⟩ (.take ⟨(some 18), (.fa 0 (.tmp 17)), none⟩ (.take ⟨(some 19), (.ld (.tmp 18)), none⟩ (.take ⟨(some 20), (.mv (.tmp 4)), none⟩ (.take ⟨(some 21), (.mv (.tmp 5)), none⟩ (.take ⟨(some 22), (.mv (.tmp 5)), none⟩ (.take ⟨(some 23), (.len 0 (.tmp 22)), none⟩ (.take ⟨(some 24), (.bin .sub (.tmp 23) (.const (.int .i64 1))), none⟩ (.take ⟨(some 25), (.ia 1 (.tmp 21) (.tmp 24)), none⟩ (.take ⟨(some 26), (.ld (.tmp 25)), none⟩ (.take ⟨(some 27), (.ia 1 (.tmp 19) (.tmp 20)), none⟩ (.alt true ⟨none, (.st (.tmp 27) (.tmp 26)), none⟩ .done .stop)))))))))))))
theorem draw130_0 {k : Kont} {e : Env} {w : World} (X : Nat → Prop) (h : R (planS Tryz.prog X w.drew k PL130_0 e w.drew)) : R (symS 32 Tryz.prog (.raw (rawOf Tryz.f130 0)) k e w) := draw_rule X (by kernel_rfl) (by kernel_rfl) (by kernel_rfl) h
noncomputable def F130 : SCode := (.seq (.ops [⟨(some 2), (.box 143 (.tmp 0)), none⟩]) (.seq (.seq (.ops [⟨(some 6), (.mv (.tmp 1)), none⟩, ⟨(some 7), (.nilc (.tmp 6)), none⟩, ⟨(some 8), (.fa 1 (.tmp 7)), none⟩, ⟨(some 9), (.ld (.tmp 8)), none⟩, ⟨(some 10), (.hard (H (.range 106 (.tmp 9)) 0)), none⟩]) (.block 0 (.loop F130_L0))) (.ops [⟨(some 28), (.mv (.tmp 1)), none⟩, ⟨(some 29), (.nilc (.tmp 28)), none⟩, ⟨(some 30), (.fa 1 (.tmp 29)), none⟩, ⟨(some 31), (.ld (.tmp 30)), none⟩, ⟨none, (.hard (H (.call (Go.Call.mk (.builtin .clear) #[(.tmp 31)] #[106])) 0)), none⟩])))
theorem F130_eq : toS Tryz.prog (bodyOf Tryz.f130) = F130 := by kernel_rfl
theorem enter130 {Φ : Value → World → Prop} {Ψ : List PanicEntry → World → Prop} {w : World} (v0 v1 : Value) (h : symS 32 Tryz.prog F130 ⟨fun e w => Φ (oneOf []) w, fun _ _ _ => False, fun e w => Φ (oneOf []) w, Ψ⟩ (upd (upd env0 0 v0) 1 v1) w) : Calls Tryz.prog 130 #[v0, v1] w (Out Φ Ψ) :=
  calls_sym (args := [v0, v1]) 32 [] Tryz.func130 (by kernel_rfl) (by kernel_rfl) (by decide) (by kernel_rfl) (by kernel_rfl) (by simp) F130_eq h
end Go.Proofs.YtienelpepioggaaGreat

/- What an operation does to the sectors: a write, a flush. -/
namespace Go.Proofs.YtienelpepioggaaGreat
open Go
set_option linter.unusedSimpArgs false
open Go.RowKit (intOf)
/-- Blocks of which nothing is fixed stand, all but one. -/
def Still (m : Nat) (G : Gh) (w : World) (G' : Gh) (w' : World) : Prop := ∀ b, b < w.heap.size → G.fix b = 0 → b ≠ m → w'.heap[b]? = w.heap[b]? ∧ G'.fix b = 0
theorem Still.grow {m : Nat} {G G' : Gh} {w w1 w' : World} (hg : Grow w w1) (h : Still m G w1 G' w') : Still m G w G' w' := fun b hb hf hm => by
  obtain ⟨h1, h2⟩ := h b (Nat.lt_of_lt_of_le hb hg.size) hf hm
  exact ⟨h1.trans (hg.blk b hb id), h2⟩
theorem WaitAt.keys {G : Gh} {κ : Nat} {w : World} {es : Array MapEntry} {q : Nat → List (List UInt8)} (h : ∀ e ∈ es.toList, ∃ n : Nat, e.key = .int .i64 n ∧ WaitV G κ w e.val (q n)) : IntKeyed .i64 es.toList := fun y hy => by
  obtain ⟨n, hn, _⟩ := h y hy; exact ⟨n, hn⟩
/-- What the map has at a sector. -/
theorem WaitAt.lkp {G : Gh} {κ : Nat} {w : World} {m : Nat} {q : Nat → List (List UInt8)} (h : WaitAt G κ w m q) (n : Nat) :
    (q n = [] ∧ lkpV w (.slice none 0 0) false (.map (some m)) (.int .i64 n) = some (.slice none 0 0)) ∨ (∃ v, lkpV w (.slice none 0 0) false (.map (some m)) (.int .i64 n) = some v ∧ WaitV G κ w v (q n)) := by
  obtain ⟨es, clk, h1, h2, h3, h4, h5, h6⟩ := h
  by_cases hq : q n = []
  · refine .inl ⟨hq, lkp_none h1 (WaitAt.keys h4) (findInt_none (WaitAt.keys h4) fun y hy hk => ?_)⟩
    obtain ⟨n', hn', hw⟩ := h4 y hy
    rw [hn'] at hk
    have : n' = n := by simp at hk; omega
    subst this
    obtain ⟨vs, b, c, _, _, _, hne, _⟩ := hw
    exact hne hq
  · obtain ⟨y, hy, hk⟩ := h5 n hq
    obtain ⟨n', hn', hw⟩ := h4 y hy
    have : n' = n := by rw [hn'] at hk; simp at hk; omega
    subst this
    exact .inr ⟨y.val, lkp_eq h1 (WaitAt.keys h4) (findInt_eq (WaitAt.keys h4) h3.keys hy hk), hw⟩

/-- The wait map behind an update. -/
theorem WaitAt.put {G G' : Gh} {κ m : Nat} {w w1 w' : World} {q : Nat → List (List UInt8)} {n : Nat} {b : List UInt8} {v' : Value} (h : WaitAt G κ w m q) (hx : Ext (fun c => c = κ) G w G' w1) (hw : WaitV G' κ w1 v' (q n ++ [b]))
    (hm : w1.heap[m]? = w.heap[m]?) (hk : Keep (fun b => b = m) w1 w')
    (hkeep : ∀ es clk, w.heap[m]? = some (.map es clk) → ∀ y ∈ es.toList, y.key ≠ .int .i64 n → (∀ k, spare y.val = some k → w1.heap[k]? = w.heap[k]? ∧ G'.fix k = G.fix k) ∧ ∀ k, spare y.val = some k → spare v' ≠ some k)
    (hput : ∀ es clk, w.heap[m]? = some (.map es clk) → ((∀ y ∈ es.toList, y.key ≠ .int .i64 n) ∧ w'.heap[m]? = some (.map (es.push ⟨.int .i64 n, v', clk⟩) (clk + 1))) ∨ ∃ j y, es.toList[j]? = some y ∧ y.key = .int .i64 n ∧ w'.heap[m]? = some (.map (es.setIfInBounds j { y with val := v' }) clk)) :
    WaitAt G' κ w' m (fun k => if k = n then q n ++ [b] else q k) := by
  obtain ⟨es, clk, h1, h2, h3, h4, h5, h6⟩ := h
  have hmm := hm.trans h1
  have hx2 : Ext (fun c => c = κ) G' w1 G' w' := .onMap hmm hk (by rw [hx.own m (hx.lt h1)]; exact h2)
  have hspne : ∀ u ls k, WaitV G' κ w1 u ls → spare u = some k → k ≠ m := fun u ls k hu hk he => by
    obtain ⟨_, _, _, _, c, hc⟩ := hu.spare hk
    subst he; rw [hmm] at hc; cases hc
  have hlift : ∀ u ls, WaitV G' κ w1 u ls → WaitV G' κ w' u ls := fun u ls hu => hu.keep hx2 (fun k hk' => ⟨hk.blk k (hu.spare hk').1 (hspne u ls k hu hk'), rfl⟩)
  have hold : ∀ y ∈ es.toList, y.key ≠ .int .i64 n → ∃ n' : Nat, y.key = .int .i64 n' ∧ n' ≠ n ∧ WaitV G' κ w' y.val (q n') := fun y hy hne => by
    obtain ⟨n', hn', hwv⟩ := h4 y hy
    refine ⟨n', hn', fun hc => hne (by rw [hn', hc]), hlift _ _ (hwv.keep hx (hkeep es clk h1 y hy hne).1)⟩
  rcases hput es clk h1 with ⟨hn, hp⟩ | ⟨j, y, hj, hy, hp⟩
  · refine ⟨_, _, hp, by rw [hx.own m (hx.lt h1)]; exact h2, ⟨?_, ?_, ?_⟩, fun z hz => ?_, fun n' hn' => ?_, ?_⟩
    · rw [Array.toList_push, List.pairwise_append]
      refine ⟨h3.keys, by simp, fun a ha c hc => ?_⟩
      simp at hc; subst hc; exact hn a ha
    · rw [Array.toList_push, List.pairwise_append]
      refine ⟨h3.born, by simp, fun a ha c hc => ?_⟩
      simp at hc; subst hc; have := h3.clk a ha; simp only; omega
    · intro z hz
      rw [Array.toList_push, List.mem_append] at hz
      rcases hz with hz | hz
      · have := h3.clk z hz; omega
      · simp at hz; subst hz; simp
    · rw [Array.toList_push, List.mem_append] at hz
      rcases hz with hz | hz
      · obtain ⟨n', h7, h8, h9⟩ := hold z hz (hn z hz)
        exact ⟨n', h7, by simpa [h8] using h9⟩
      · simp at hz; subst hz
        exact ⟨n, rfl, by simpa using hlift _ _ hw⟩
    · by_cases hnn : n' = n
      · subst hnn; exact ⟨⟨.int .i64 n', v', clk⟩, by simp, rfl⟩
      · simp only [if_neg hnn] at hn'
        obtain ⟨z, hz, hk'⟩ := h5 n' hn'
        exact ⟨z, by simp only [Array.toList_push, List.mem_append]; exact .inl hz, hk'⟩
    · rw [Array.toList_push, List.pairwise_append]
      refine ⟨h6, by simp, fun a ha c hc k hk' => ?_⟩
      simp at hc; subst hc; exact (hkeep es clk h1 a ha (hn a ha)).2 k hk'
  · have hjl : j < es.toList.length := (List.getElem?_eq_some_iff.1 hj).1
    have hjy : es.toList[j] = y := (List.getElem?_eq_some_iff.1 hj).2
    have hset : (es.setIfInBounds j { y with val := v' }).toList = es.toList.set j { y with val := v' } := by simp
    have hmem : ∀ z, z ∈ es.toList.set j { y with val := v' } → (z = { y with val := v' }) ∨ (z ∈ es.toList ∧ z.key ≠ .int .i64 n) := fun z hz => by
      obtain ⟨i, hi, hiz⟩ := List.getElem_of_mem hz
      rw [List.getElem_set] at hiz
      split at hiz
      · exact .inl hiz.symm
      · rename_i hne
        have hil : i < es.toList.length := by simpa using hi
        refine .inr ⟨hiz ▸ List.getElem_mem hil, fun hkz => ?_⟩
        have hpw := h3.keys
        rw [List.pairwise_iff_getElem] at hpw
        rcases Nat.lt_or_gt_of_ne hne with hlt | hlt
        · exact hpw j i hjl hil hlt (by rw [hjy, hy, hiz, hkz])
        · exact hpw i j hil hjl hlt (by rw [hjy, hy, hiz, hkz])
    have hpwset : ∀ (R : MapEntry → MapEntry → Prop), es.toList.Pairwise R → (∀ z ∈ es.toList, z.key ≠ .int .i64 n → (R z y → R z { y with val := v' }) ∧ (R y z → R { y with val := v' } z)) → (es.toList.set j { y with val := v' }).Pairwise R := by
      intro R hR hz
      rw [List.pairwise_iff_getElem] at hR ⊢
      intro a c ha hc hac
      have ha' : a < es.toList.length := by simpa using ha
      have hc' : c < es.toList.length := by simpa using hc
      have hrac := hR a c ha' hc' hac
      have hkk := h3.keys
      rw [List.pairwise_iff_getElem] at hkk
      rw [List.getElem_set, List.getElem_set]
      by_cases h7 : j = a
      · have h8 : ¬ j = c := by omega
        rw [if_pos h7, if_neg h8]
        subst h7
        rw [hjy] at hrac
        exact (hz _ (List.getElem_mem hc') (fun hk' => hkk j c ha' hc' hac (by rw [hjy, hy, hk']))).2 hrac
      · rw [if_neg h7]
        by_cases h8 : j = c
        · rw [if_pos h8]
          subst h8
          rw [hjy] at hrac
          exact (hz _ (List.getElem_mem ha') (fun hk' => hkk a j ha' hc' hac (by rw [hjy, hy, hk']))).1 hrac
        · rw [if_neg h8]; exact hrac
    refine ⟨_, _, hp, by rw [hx.own m (hx.lt h1)]; exact h2, ⟨?_, ?_, ?_⟩, fun z hz => ?_, fun n' hn' => ?_, ?_⟩
    · rw [hset]; exact hpwset _ h3.keys (fun z _ _ => ⟨id, id⟩)
    · rw [hset]; exact hpwset _ h3.born (fun z _ _ => ⟨id, id⟩)
    · intro z hz
      rw [hset] at hz
      rcases hmem z hz with rfl | ⟨hz, _⟩
      · exact h3.clk y (hjy ▸ List.getElem_mem hjl)
      · exact h3.clk z hz
    · rw [hset] at hz
      rcases hmem z hz with rfl | ⟨hz, hne⟩
      · exact ⟨n, hy, by simpa using hlift _ _ hw⟩
      · obtain ⟨n', h7, h8, h9⟩ := hold z hz hne
        exact ⟨n', h7, by simpa [h8] using h9⟩
    · rw [hset]
      by_cases hnn : n' = n
      · subst hnn
        exact ⟨{ y with val := v' }, List.mem_iff_getElem.2 ⟨j, by simpa using hjl, by simp⟩, hy⟩
      · simp only [if_neg hnn] at hn'
        obtain ⟨z, hz, hk'⟩ := h5 n' hn'
        obtain ⟨i, hi, hiz⟩ := List.getElem_of_mem hz
        have hij : ¬ j = i := fun hc => by
          subst hc
          rw [hjy] at hiz; subst hiz
          rw [hy] at hk'; simp at hk'; exact hnn (by omega)
        exact ⟨z, List.mem_iff_getElem.2 ⟨i, by simpa using hi, by rw [List.getElem_set, if_neg hij]; exact hiz⟩, hk'⟩
    · rw [hset]
      refine hpwset _ h6 (fun z hz hne => ⟨fun _ k hk' => (hkeep es clk h1 z hz hne).2 k hk', fun _ k hk' hzk => (hkeep es clk h1 z hz hne).2 k hzk hk'⟩)
end Go.Proofs.YtienelpepioggaaGreat

/- A write upon the sectors: the walk. -/
namespace Go.Proofs.YtienelpepioggaaGreat
open Go
set_option linter.unusedSimpArgs false
open Go.RowKit (intOf)
theorem onWrite_spec {G : Gh} {κ p m : Nat} {w : World} {vf vl vs u : Value} {n : Nat} {b : List UInt8} {q : Nat → List (List UInt8)} (hp : w.heap[p]? = some (.cells #[vf, vl, vs, .map (some m)] 111 (0, 0)))
    (hq : WaitAt G κ w m q) (hu : HasFB G w u b) (hn : (q n).length ≤ 1000000) :
    Calls Tryz.prog 129 #[.agg #[.int .i64 n, u], .pointer (some ⟨p, 2, none⟩)] w (Ret fun v w' => v = .tuple #[] ∧ ∃ G', WaitAt G' κ w' m (fun k => if k = n then q n ++ [b] else q k) ∧ Ext (fun c => c = κ) G w G' w' ∧ Still m G w G' w') := by
  apply enter129
  apply R_in
  simp (maxSteps := 600000) (disch := omega) only [F129, ↓sy1, sy2, sy3, readOK, sy5, sy6, Nat.reduceEqDiff, ↓reduceIte, sy7, sy8, sy9, sya, oneOf, syb, syc, Nat.reduceAdd, Nat.reduceMul, syd, sye, syf, syg, syh, reduceCtorEq]
  have hpl := (Array.getElem?_eq_some_iff.1 hp).1
  have huc : isCell u = true := hu.1.isCell
  have hg0 : Grow w (w.alloc (.cells (Value.agg #[.int .i64 n, u]).cells 142)).drew := ((Keep.refl _ _).alloc _).drew
  have hb0 : (w.alloc (.cells (Value.agg #[.int .i64 n, u]).cells 142)).drew.heap[w.heap.size]? = some (.cells (Value.agg #[.int .i64 n, u]).cells 142 (0, 0)) := heap_alloc_new w _
  have hx0 : Ext (fun c => c = κ) G w G _ := .grow hg0
  have hq0 := hq.ext (K := fun _ => False) (.grow hg0) id
  have hu0 := hu.ext (κ := fun _ => False) (.grow hg0)
  have hp0 := hg0.gheap hp
  have hr0 : w.heap.size ≠ p := by omega
  generalize hr : w.heap.size = r at hb0 hr0 ⊢
  obtain ⟨v, hl, hv⟩ : ∃ v, lkpV (w.alloc (.cells (Value.agg #[.int .i64 n, u]).cells 142)).drew (.slice none 0 0) false (.map (some m)) (.int .i64 n) = some v ∧ (v = .slice none 0 0 ∧ q n = [] ∨ WaitV G κ (w.alloc (.cells (Value.agg #[.int .i64 n, u]).cells 142)).drew v (q n)) := by
    rcases hq0.lkp n with ⟨h1, h2⟩ | ⟨v, h1, h2⟩
    · exact ⟨_, h2, .inl ⟨rfl, h1⟩⟩
    · exact ⟨_, h1, .inr h2⟩
  refine draw129_0 (fun bb => spare v = some bb) ?_
  generalize (w.alloc (.cells (Value.agg #[.int .i64 n, u]).cells 142)).drew = w0 at hg0 hb0 hx0 hq0 hu0 hp0 hl hv ⊢
  have hc1 : w0.cell? ⟨p, 3, none⟩ = some (.map (some m)) := by rw [cell_block hp0]; rfl
  have hc2 : w0.cell? ⟨r, 0, none⟩ = some (.int .i64 n) := by rw [cell_block hb0]; rfl
  have hc3 : w0.cell? ⟨r, 1, none⟩ = some u := by rw [cell_block hb0]; rfl
  have hmm := hq0
  obtain ⟨es, clk, hes, hom, hok, hall, hhas, hsp⟩ := hmm
  have hml : m < w0.heap.size := (Array.getElem?_eq_some_iff.1 hes).1
  have hkey := WaitAt.keys hall
  -- behind the append: the map is put
  have fin : ∀ (v' : Value) (G1 : Gh) (w1 : World), Ext (fun c => c = κ) G w0 G1 w1 → WaitV G1 κ w1 v' (q n ++ [b]) → w1.heap[m]? = w0.heap[m]? → (∀ bb, bb < w0.heap.size → G.fix bb = 0 → w1.heap[bb]? = w0.heap[bb]? ∧ G1.fix bb = 0) →
      (∀ y ∈ es.toList, y.key ≠ .int .i64 n → (∀ k, spare y.val = some k → w1.heap[k]? = w0.heap[k]? ∧ G1.fix k = G.fix k) ∧ ∀ k, spare y.val = some k → spare v' ≠ some k) →
      ∀ w2, Keep (fun b => b = m) w1 w2 → (((∀ y ∈ es.toList, y.key ≠ .int .i64 n) ∧ w2.heap[m]? = some (.map (es.push ⟨.int .i64 n, v', clk⟩) (clk + 1))) ∨ ∃ j y, es.toList[j]? = some y ∧ y.key = .int .i64 n ∧ w2.heap[m]? = some (.map (es.setIfInBounds j { y with val := v' }) clk)) →
      ∃ G', WaitAt G' κ w2 m (fun k => if k = n then q n ++ [b] else q k) ∧ Ext (fun c => c = κ) G w G' w2 ∧ Still m G w G' w2 := by
    intro v' G1 w1 hx hv hm1 hst hkeep w2 hk hput
    have hx2 : Ext (fun c => c = κ) G1 w1 G1 w2 := .onMap (hm1.trans hes) hk (by rw [hx.own m hml]; exact hom)
    refine ⟨G1, hq0.put hx hv hm1 hk (fun es' clk' h' => ?_) (fun es' clk' h' => ?_), (hx0.trans hx).trans hx2, fun bb hb hf hbm => ?_⟩
    · rw [hes] at h'; cases h'; exact hkeep
    · rw [hes] at h'; cases h'; exact hput
    · obtain ⟨h1, h2⟩ := hst bb (Nat.lt_of_lt_of_le hb hg0.size) hf
      exact ⟨(hk.blk bb (Nat.lt_of_lt_of_le hb (hx0.trans hx).size) hbm).trans (h1.trans (hg0.blk bb hb id)), h2⟩
  have hunder : Tryz.prog.underlying 106 = some (.map 3 53) := by kernel_rfl
  have hint : Tryz.prog.underlying 3 = some (.int .i64) := by kernel_rfl
  have hXp : ¬ spare v = some p := fun hc => by
    rcases hv with ⟨rfl, _⟩ | hv
    · cases hc
    · obtain ⟨_, _, _, _, c, h⟩ := hv.spare hc; rw [hp0] at h; cases h
  have hXm : ¬ spare v = some m := fun hc => by
    rcases hv with ⟨rfl, _⟩ | hv
    · cases hc
    · obtain ⟨_, _, _, _, c, h⟩ := hv.spare hc; rw [hes] at h; cases h
  have hXr : ¬ spare v = some r := fun hc => by
    rcases hv with ⟨rfl, _⟩ | hv
    · cases hc
    · obtain ⟨_, _, _, _, c, h⟩ := hv.spare hc; rw [hb0] at h; cases h
  simp (maxSteps := 600000) (disch := omega) only [PL129_0, ↓sy1, sy2, sy3, readOK, sy5, sy6, Nat.reduceEqDiff, ↓reduceIte, sy7, sy8, sy9, sya, oneOf, syb, syc, Nat.reduceAdd, Nat.reduceMul, syd, sye, syf, syg, syh, reduceCtorEq, hc1, hc2, hc3, hl, hXp, hXm, hXr, oneF_cell huc]
  have hga : Grow w0 (w0.alloc (.cells #[u] 46)) := (Keep.refl _ _).alloc _
  have hxa : ∀ {K : Nat → Prop}, Ext K G w0 G (w0.alloc (.cells #[u] 46)) := .grow hga
  have hsz : (w0.alloc (.cells #[u] 46)).heap.size = w0.heap.size + 1 := by simp
  have hsrc : Has 1 (w0.alloc (.cells #[u] 46)) (.slice (some ⟨w0.heap.size, 0, none⟩) 1 1) [u] := Has.new1
  generalize w0.alloc (.cells #[u] 46) = w1 at hga hxa hsz hsrc ⊢
  refine ⟨hga.mono (fun _ _ h => h.elim), ?_⟩
  have hspv : ∀ k, spare v = some k → k < w0.heap.size ∧ 0 < G.fix k := fun k hk => by
    rcases hv with ⟨rfl, _⟩ | hv
    · cases hk
    · obtain ⟨h1, h2, h3, h4, _⟩ := hv.spare hk
      exact ⟨h1, by omega⟩
  have hin : ∀ y ∈ es.toList, y.key = .int .i64 n → spare y.val = spare v := fun y hy hk => by
    have := lkp_eq (z := .slice none 0 0) hes hkey (findInt_eq hkey hok.keys hy hk)
    rw [hl] at this
    rw [Option.some.inj this]
  have last : ∀ (v' : Value) (G1 : Gh) (w2 : World), Keep (fun bb => spare v = some bb) w1 w2 → Ext (fun c => c = κ) G w1 G1 w2 → WaitV G1 κ w2 v' (q n ++ [b]) → (∀ bb, bb < w0.heap.size → spare v ≠ some bb → G1.fix bb = G.fix bb) →
      (∀ k, spare v' = some k → k < w0.heap.size → spare v = some k) → ∀ w3, Keep (fun b => b = m) w2 w3 → (((∀ y ∈ es.toList, y.key ≠ .int .i64 n) ∧ w3.heap[m]? = some (.map (es.push ⟨.int .i64 n, v', clk⟩) (clk + 1))) ∨ ∃ j y, es.toList[j]? = some y ∧ y.key = .int .i64 n ∧ w3.heap[m]? = some (.map (es.setIfInBounds j { y with val := v' }) clk)) →
      ∃ G', WaitAt G' κ w3 m (fun k => if k = n then q n ++ [b] else q k) ∧ Ext (fun c => c = κ) G w G' w3 ∧ Still m G w G' w3 := by
    intro v' G1 w2 hk hx hw hfx hsv w3 hk3 hput
    have hbl : ∀ bb, bb < w0.heap.size → spare v ≠ some bb → w2.heap[bb]? = w0.heap[bb]? := fun bb hb hn => (hk.blk bb (by omega) hn).trans (hga.blk bb hb id)
    refine fin v' G1 w2 (hxa.trans hx) hw (hbl m hml hXm) (fun bb hb hf => ?_) (fun y hy hne => ?_) w3 hk3 hput
    · have hn : spare v ≠ some bb := fun hc => by have := (hspv bb hc).2; omega
      exact ⟨hbl bb hb hn, by rw [hfx bb hb hn]; exact hf⟩
    · have hyw : ∃ ls, WaitV G κ w0 y.val ls := by obtain ⟨n', _, h⟩ := hall y hy; exact ⟨_, h⟩
      obtain ⟨ls, hyw⟩ := hyw
      have hyv : ∀ k, spare y.val = some k → spare v ≠ some k := fun k hk' hvk => by
        by_cases hex : ∃ z ∈ es.toList, z.key = .int .i64 n
        · obtain ⟨z, hz, hzk⟩ := hex
          have hzs := hin z hz hzk
          obtain ⟨i, hi, rfl⟩ := List.getElem_of_mem hy
          obtain ⟨j, hj, rfl⟩ := List.getElem_of_mem hz
          have hij : i ≠ j := fun hc => by subst hc; exact hne hzk
          rw [List.pairwise_iff_getElem] at hsp
          rcases Nat.lt_or_gt_of_ne hij with hlt | hlt
          · exact hsp i j hi hj hlt k hk' (by rw [hzs]; exact hvk)
          · exact hsp j i hj hi hlt k (by rw [hzs]; exact hvk) hk'
        · have hnone := lkp_none (z := .slice none 0 0) hes hkey (findInt_none hkey (n := n) (fun z hz hc => hex ⟨z, hz, hc⟩))
          rw [hl] at hnone
          rw [Option.some.inj hnone] at hvk
          cases hvk
      refine ⟨fun k hk' => ⟨hbl k (hyw.spare hk').1 (hyv k hk'), hfx k (hyw.spare hk').1 (hyv k hk')⟩, fun k hk' hc => hyv k hk' (hsv k hc (hyw.spare hk').1)⟩
  obtain ⟨xs, hxs, hrows, hcase⟩ : ∃ xs, HasF G w0 v xs ∧ RowsF G w0 xs (q n) ∧ ((spare v = none ∧ ∀ a n c, v = .slice (some a) n c → n = c) ∨ ∃ g cap, v = .slice (some ⟨g, 0, none⟩) (q n).length cap ∧ (q n).length < cap ∧ G.own g = κ ∧ G.fix g = (q n).length ∧ w0.ownsRow 0 46 1 v (q n).length xs) := by
    rcases hv with ⟨rfl, h⟩ | ⟨xs, g, cap, rfl, h1, h2, h3, h4⟩
    · exact ⟨[], HasF.nil G w0, by rw [h]; trivial, .inl ⟨rfl, fun _ _ _ h => by cases h⟩⟩
    · by_cases hlt : (q n).length < cap
      · obtain ⟨h5, h6, h7⟩ := h4 hlt
        exact ⟨xs, h1, h2, .inr ⟨g, cap, rfl, hlt, h5, h6, h7⟩⟩
      · refine ⟨xs, h1, h2, .inl ⟨by simp [spare, hlt], fun a n' c h => ?_⟩⟩
        cases h
        rcases h1.1 with ⟨b', o', n'', c'', hvv, h8, h9, _⟩ | ⟨_, hvv⟩
        · cases hvv; omega
        · cases hvv
  have hlen : xs.length = (q n).length := hrows.length
  have hxa0 : Ext (fun _ => False) G w0 G w1 := .grow hga
  have hkm : ∀ {w2 : World}, Keep (fun bb => spare v = some bb) w1 w2 → w2.heap[m]? = some (.map es clk) := fun hk => hk.heap (hga.gheap hes) hXm
  rcases hcase with ⟨hsn, hfull⟩ | ⟨g, cap, rfl, hlt, hog, hfg, hown⟩
  · refine app_full elemR (by simp only [upd_at, Nat.reduceEqDiff, reduceIte, ev_tmp, ev_const, List.map_cons, List.map_nil]) (by simp only [upd_at, Nat.reduceEqDiff, reduceIte, ev_tmp, ev_const, List.map_cons, List.map_nil]) (hxs.1.grow hga) hfull hsrc huc (by omega) (by omega) ?_
    intro c w2 hg2 hown2
    have hk2 : Keep (fun bb => spare v = some bb) w1 w2 := Keep.grow hg2
    have hx2 : Ext (fun c => c = κ) G w1 (G.at w1.heap.size κ ((q n).length + 1)) w2 := .fresh hg2 (Nat.le_refl _)
    have hwv : WaitV (G.at w1.heap.size κ ((q n).length + 1)) κ w2 (.slice (some ⟨w1.heap.size, 0, none⟩) (xs.length + 1) c) (q n ++ [b]) := by
      refine ⟨xs ++ [u], w1.heap.size, c, by simp [hlen], ⟨Has.own hown2, fun b' o l c' hvv _ => ?_⟩, ((hrows.ext hxa0).ext hx2).snoc ((hu0.ext hxa0).ext hx2), by simp, fun _ => ⟨Gh.at_own, by rw [Gh.at_fix]; simp, ?_⟩⟩
      · cases hvv; rw [Gh.at_fix]; simp [hlen]
      · have := own_base (B' := 0) hown2 (Nat.zero_le _)
        simpa [hlen] using this
    simp (maxSteps := 600000) (disch := omega) only [↓sy1, sy2, sy3, readOK, sy5, sy6, Nat.reduceEqDiff, ↓reduceIte, sy7, sy8, sy9, sya, oneOf, syb, syc, Nat.reduceAdd, Nat.reduceMul, syd, sye, syf, syg, syh, reduceCtorEq]
    refine ⟨(Keep.grow hga).trans hk2, ?_⟩
    have fin3 := last _ _ w2 hk2 hx2 hwv (fun bb hb _ => Gh.at_fix' (by omega)) (fun k hk hlt => by
      simp only [spare] at hk
      split at hk
      · cases hk; have := hga.size; omega
      · cases hk)
    refine put_rule (n := n) (v := .slice (some ⟨w1.heap.size, 0, none⟩) (xs.length + 1) c) (by simp only [upd_at, Nat.reduceEqDiff, reduceIte, ev_tmp, ev_const, List.map_cons, List.map_nil]) (by simp only [upd_at, Nat.reduceEqDiff, reduceIte, ev_tmp, ev_const, List.map_cons, List.map_nil]) (by simp only [upd_at, Nat.reduceEqDiff, reduceIte, ev_tmp, ev_const, List.map_cons, List.map_nil]) hunder hint (hkm hk2) hkey (fun hn w3 hk3 hm3 => ?_) (fun j y hj hy w3 hk3 hm3 => ?_)
    · exact R_out (fin3 w3 hk3 (.inl ⟨hn, hm3⟩))
    · exact R_out (fin3 w3 hk3 (.inr ⟨j, y, hj, hy, hm3⟩))
  · have hgl : g < w0.heap.size := (World.ownsRow.lt hown g rfl).2
    have hsg : spare (.slice (some ⟨g, 0, none⟩) (q n).length cap) = some g := by simp [spare, hlt]
    have hown1 := own_grow hown hga
    rw [← hlen] at hown1
    refine app_room elemR (by simp only [upd_at, Nat.reduceEqDiff, reduceIte, ev_tmp, ev_const, List.map_cons, List.map_nil]; rw [hlen]) (by simp only [upd_at, Nat.reduceEqDiff, reduceIte, ev_tmp, ev_const, List.map_cons, List.map_nil]) hown1 (by omega) hsrc huc ?_
    intro w2 hkg hown2
    have hk2 : Keep (fun bb => spare (.slice (some ⟨g, 0, none⟩) (q n).length cap) = some bb) w1 w2 := hkg.mono (fun b _ h => by rw [h]; exact hsg)
    have hx2 : Ext (fun c => c = κ) G w1 (G.at g κ ((q n).length + 1)) w2 := by
      refine .upd hkg (fun _ => ⟨hog, by omega⟩) (fun _ i v' hi hc => ?_)
      have hil : i < xs.length := by omega
      have h1 := World.ownsRow.cells hown1 (g := g) rfl i xs[i] (List.getElem?_eq_getElem hil)
      have h2 := World.ownsRow.cells hown2 (g := g) rfl i xs[i] (by rw [List.getElem?_append_left hil]; exact List.getElem?_eq_getElem hil)
      rw [add_lit] at h1 h2
      simp only [Nat.zero_add] at h1 h2
      rw [h1] at hc
      rw [h2]; exact hc
    have hwv : WaitV (G.at g κ ((q n).length + 1)) κ w2 (.slice (some ⟨g, 0, none⟩) (xs.length + 1) cap) (q n ++ [b]) := by
      refine ⟨xs ++ [u], g, cap, by simp [hlen], ⟨Has.own hown2, fun b' o l c' hvv _ => ?_⟩, ((hrows.ext hxa0).ext hx2).snoc ((hu0.ext hxa0).ext hx2), by simp, fun _ => ⟨Gh.at_own, by rw [Gh.at_fix]; simp, ?_⟩⟩
      · cases hvv; rw [Gh.at_fix]; simp [hlen]
      · simpa [hlen] using hown2
    simp (maxSteps := 600000) (disch := omega) only [↓sy1, sy2, sy3, readOK, sy5, sy6, Nat.reduceEqDiff, ↓reduceIte, sy7, sy8, sy9, sya, oneOf, syb, syc, Nat.reduceAdd, Nat.reduceMul, syd, sye, syf, syg, syh, reduceCtorEq]
    refine ⟨(Keep.grow hga).trans hk2, ?_⟩
    have fin3 := last _ _ w2 hk2 hx2 hwv (fun bb hb hne => Gh.at_fix' (fun hc => hne (by rw [hc]; exact hsg))) (fun k hk _ => by
      simp only [spare] at hk
      split at hk
      · cases hk; exact hsg
      · cases hk)
    refine put_rule (n := n) (v := .slice (some ⟨g, 0, none⟩) (xs.length + 1) cap) (by simp only [upd_at, Nat.reduceEqDiff, reduceIte, ev_tmp, ev_const, List.map_cons, List.map_nil]) (by simp only [upd_at, Nat.reduceEqDiff, reduceIte, ev_tmp, ev_const, List.map_cons, List.map_nil]) (by simp only [upd_at, Nat.reduceEqDiff, reduceIte, ev_tmp, ev_const, List.map_cons, List.map_nil]) hunder hint (hkm hk2) hkey (fun hn w3 hk3 hm3 => ?_) (fun j y hj hy w3 hk3 hm3 => ?_)
    · exact R_out (fin3 w3 hk3 (.inl ⟨hn, hm3⟩))
    · exact R_out (fin3 w3 hk3 (.inr ⟨j, y, hj, hy, hm3⟩))
end Go.Proofs.YtienelpepioggaaGreat

/- A flush upon the sectors: the walk. -/
namespace Go.Proofs.YtienelpepioggaaGreat
open Go
set_option linter.unusedSimpArgs false
open Go.RowKit (intOf)
theorem iterSeen_of {w : World} {r b c : Nat} {a : Option Nat} {s : Array Nat} (h : w.heap[r]? = some (.mapIter a b s c)) : w.iterSeen r = s := by simp [World.iterSeen, h]
theorem Ext.thenNew {K : Nat → Prop} {S : Nat → Prop} {G G' : Gh} {w w2 w3 : World} (h : Ext K G w G' w2) (hk : Keep S w2 w3) (hs : ∀ b, S b → w.heap.size ≤ b) : Ext K G w G' w3 :=
  ⟨hk.os.trans h.os, hk.tape.trans h.tape, hk.output.trans h.output, Nat.le_trans h.size hk.size, h.own, h.fix, h.fixe,
    fun b hb hn => (hk.blk b (Nat.lt_of_lt_of_le hb h.size) (fun hc => by have := hs b hc; omega)).trans (h.blk b hb hn),
    fun b i v hb hi hc => hk.cell (h.pre b i v hb hi hc) (fun hc' => by have := hs b hc'; omega)⟩
/-- A block without cells may change as it will: what is read stays. -/
theorem Ext.any {r : Nat} {G : Gh} {w w' : World} (hk : Keep (fun b => b = r) w w') (hn : ∀ i v, w.cell? ⟨r, i, none⟩ ≠ some v) : Ext (fun _ => True) G w G w' :=
  ⟨hk.os, hk.tape, hk.output, hk.size, fun _ _ => rfl, fun _ _ => Nat.le_refl _, fun _ _ _ => rfl, fun _ _ h => absurd trivial h, fun b i v _ _ hc => by
    by_cases h : b = r
    · subst h; exact absurd hc (hn i v)
    · exact hk.cell hc h⟩
theorem SafeAt.at {G : Gh} {κ : Nat} {w : World} {v : Value} {ls : List (List UInt8)} (h : SafeAt G κ w v ls) : ∃ sb c, v.ownBlock = some sb ∧ w.heap[sb]? = some (.cells c 46 (0, 0)) ∧ G.own sb = κ ∧ G.fix sb = 0 := by
  obtain ⟨us, sb, h1, ⟨_, ⟨rfl, _⟩ | ⟨g, cap, cur, rfl, _, h12, _⟩⟩, _, h4, h5⟩ := h
  · cases h1
  · cases h1; exact ⟨_, cur, rfl, h12, h4, h5⟩
/-- It stands, when a block that has no rows has changed. -/
theorem SafeAt.keepNo {G : Gh} {κ r : Nat} {w w' : World} {v : Value} {ls : List (List UInt8)} (h : SafeAt G κ w v ls) (hk : Keep (fun b => b = r) w w') (hn : ∀ i v, w.cell? ⟨r, i, none⟩ ≠ some v) (hr : ∀ c t f, w.heap[r]? ≠ some (.cells c t f)) : SafeAt G κ w' v ls := by
  obtain ⟨sb', c', h1', h2', _⟩ := h.at
  obtain ⟨us, sb, h1, h2, h3, h4, h5⟩ := h
  rw [h1] at h1'; cases h1'
  exact ⟨us, _, h1, own_keep h2 hk (fun b hb hbr => by rw [h1] at hb; cases hb; subst hbr; exact hr _ _ _ h2'), h3.ext (Ext.any hk hn), h4, h5⟩
/-- One round of a loop over a map. -/
def MStep (r m clk : Nat) (es : Array MapEntry) (I : List Nat → Env → World → Prop) (w : World) (e' : Env) (w' : World) : Prop :=
  (∃ seen, w'.heap[r]? = some (.mapIter (some m) clk seen.toArray clk) ∧ I seen e' w') ∧
    (es.toList.filter fun y => !(w'.iterSeen r).contains y.born).length < (es.toList.filter fun y => !(w.iterSeen r).contains y.born).length
theorem MStep.mk {r m clk : Nat} {es : Array MapEntry} {I : List Nat → Env → World → Prop} {w : World} {e' : Env} {w' : World} {seen : List Nat} {y : MapEntry} (hs : w.heap[r]? = some (.mapIter (some m) clk seen.toArray clk)) (hy : y ∈ es.toList) (hn : y.born ∉ seen)
    (hs' : w'.heap[r]? = some (.mapIter (some m) clk (seen ++ [y.born]).toArray clk)) (hI : I (seen ++ [y.born]) e' w') : MStep r m clk es I w e' w' := by
  refine ⟨⟨_, hs', hI⟩, ?_⟩
  simp only [iterSeen_of hs, iterSeen_of hs']
  refine filter_lt _ _ (fun x hx => ?_) y ?_ ?_ _ hy
  · simp at hx ⊢; exact hx.1
  · simpa using hn
  · simp
/-- A loop over a map that it does not write. -/
theorem mloop_rule {n : Nat} {P : Program} {k : Kont} {e : Env} {w : World} {c : SCode} {r m clk : Nat} {es : Array MapEntry} (I : List Nat → Env → World → Prop) (hr : w.heap[r]? = some (.mapIter (some m) clk #[] clk)) (h0 : I [] e w)
    (round : ∀ seen e w, w.heap[r]? = some (.mapIter (some m) clk seen.toArray clk) → I seen e w → R (symS n P c ⟨fun e' w' => MStep r m clk es I w e' w', k.x, k.r, k.p⟩ e w)) : R (symS n P (.loop c) k e w) := by
  refine loop_rule (fun e w => ∃ seen, w.heap[r]? = some (.mapIter (some m) clk seen.toArray clk) ∧ I seen e w) (fun _ w => (es.toList.filter fun y => !(w.iterSeen r).contains y.born).length) ⟨[], hr, h0⟩ ?_
  rintro e w ⟨seen, hs, hI⟩
  exact round seen e w hs hI
open Classical in
/-- What waits at the sectors that have been seen. -/
noncomputable def doneQ (es : List MapEntry) (seen : List Nat) (q : Nat → List (List UInt8)) : Nat → List (List UInt8) :=
  fun n => if ∃ y ∈ es, y.born ∈ seen ∧ y.key = .int .i64 (n : Nat) then q n else []
theorem flushed_none (s : List (List UInt8)) : flushed s (fun _ => []) = s := by
  refine List.ext_getElem (by simp [flushed]) (fun i h1 h2 => by simp [flushed, lastOr])
theorem flushed_step {es : List MapEntry} {seen : List Nat} {q : Nat → List (List UInt8)} {ls : List (List UInt8)} {y : MapEntry} {n : Nat} (hy : y ∈ es) (hk : y.key = .int .i64 (n : Nat)) (hb : es.Pairwise fun a b => a.born ≠ b.born) (hne : q n ≠ []) (hn : n < ls.length) :
    flushed ls (doneQ es (seen ++ [y.born]) q) = (flushed ls (doneQ es seen q)).set n ((q n).getLast hne) := by
  refine List.ext_getElem (by simp [flushed]) (fun i h1 h2 => ?_)
  rw [List.getElem_set]
  simp only [flushed, List.getElem_mapIdx]
  by_cases h : n = i
  · subst h
    rw [if_pos rfl]
    have : doneQ es (seen ++ [y.born]) q n = q n := by
      unfold doneQ; rw [if_pos ⟨y, hy, by simp, hk⟩]
    rw [this, lastOr, List.getLast?_eq_some_getLast hne]; rfl
  · rw [if_neg h]
    have : doneQ es (seen ++ [y.born]) q i = doneQ es seen q i := by
      unfold doneQ
      congr 1
      refine propext ⟨fun ⟨z, hz, hzb, hzk⟩ => ?_, fun ⟨z, hz, hzb, hzk⟩ => ⟨z, hz, by simp [hzb], hzk⟩⟩
      rcases List.mem_append.1 hzb with hzb | hzb
      · exact ⟨z, hz, hzb, hzk⟩
      · simp at hzb
        have hzy : z = y := by
          obtain ⟨a, ha, rfl⟩ := List.getElem_of_mem hz
          obtain ⟨c, hc, rfl⟩ := List.getElem_of_mem hy
          rw [List.pairwise_iff_getElem] at hb
          rcases Nat.lt_trichotomy a c with hlt | heq | hlt
          · exact absurd hzb (hb a c ha hc hlt)
          · subst heq; rfl
          · exact absurd hzb.symm (hb c a hc ha hlt)
        subst hzy
        rw [hk] at hzk; simp at hzk; omega
    rw [this]
theorem flushed_all {es : List MapEntry} {seen : List Nat} {q : Nat → List (List UInt8)} {ls : List (List UInt8)} (hall : ∀ y ∈ es, y.born ∈ seen) (hhas : ∀ n, q n ≠ [] → ∃ y ∈ es, y.key = .int .i64 (n : Nat)) : flushed ls (doneQ es seen q) = flushed ls q := by
  have : doneQ es seen q = q := by
    funext n
    unfold doneQ
    split
    · rfl
    · rename_i h
      by_cases hq : q n = []
      · exact hq.symm
      · obtain ⟨y, hy, hk⟩ := hhas n hq
        exact absurd ⟨y, hy, hall y hy, hk⟩ h
  rw [this]

theorem onFlush_spec {G : Gh} {κ p m : Nat} {w : World} {vf vl vs : Value} {ls : List (List UInt8)} {q : Nat → List (List UInt8)} (hp : w.heap[p]? = some (.cells #[vf, vl, vs, .map (some m)] 111 (0, 0)))
    (hq : WaitAt G κ w m q) (hs : SafeAt G κ w vs ls) (hin : ∀ n, q n ≠ [] → n < ls.length) (hlq : ∀ n, (q n).length ≤ 1000000) :
    Calls Tryz.prog 130 #[.agg #[], .pointer (some ⟨p, 2, none⟩)] w (Ret fun v w' => v = .tuple #[] ∧ WaitAt G κ w' m (fun _ => []) ∧ SafeAt G κ w' vs (flushed ls q) ∧ Ext (fun c => c = κ) G w G w' ∧ w'.heap[p]? = some (.cells #[vf, vl, vs, .map (some m)] 111 (0, 0))) := by
  apply enter130
  apply R_in
  simp (maxSteps := 600000) (disch := omega) only [F130, ↓sy1, sy2, sy3, readOK, sy5, sy6, Nat.reduceEqDiff, ↓reduceIte, sy7, sy8, sy9, sya, oneOf, syb, syc, Nat.reduceAdd, Nat.reduceMul, syd, sye, syf, syg, syh, reduceCtorEq]
  have hg0 : Grow w (w.alloc (.cells (Value.agg #[]).cells 143)) := (Keep.refl _ _).alloc _
  generalize w.alloc (.cells (Value.agg #[]).cells 143) = w0 at hg0 ⊢
  have hp0 := hg0.gheap hp
  have hc1 : w0.cell? ⟨p, 3, none⟩ = some (.map (some m)) := by rw [cell_block hp0]; rfl
  obtain ⟨es, clk, hes, hom, hok, hall, hhas, hsp⟩ := hq
  have hml : m < w.heap.size := (Array.getElem?_eq_some_iff.1 hes).1
  have hunder : Tryz.prog.underlying 106 = some (.map 3 53) := by kernel_rfl
  simp (maxSteps := 600000) (disch := omega) only [↓sy1, sy2, sy3, readOK, sy5, sy6, Nat.reduceEqDiff, ↓reduceIte, sy7, sy8, sy9, sya, oneOf, syb, syc, Nat.reduceAdd, Nat.reduceMul, syd, sye, syf, syg, syh, reduceCtorEq, hc1]
  refine range_rule (m := m) (by simp only [upd_at, Nat.reduceEqDiff, reduceIte, ev_tmp, ev_const, List.map_cons, List.map_nil]) hunder (hg0.gheap hes) ?_
  have hg1 : Grow w (w0.alloc (.mapIter (some m) clk #[] clk)) := hg0.trans ((Keep.refl _ _).alloc _)
  have hr1 := heap_alloc_new w0 (.mapIter (some m) clk #[] clk)
  have hrw := hg0.size
  generalize w0.alloc (.mapIter (some m) clk #[] clk) = w1 at hg1 hr1 ⊢
  generalize w0.heap.size = r at hr1 hrw ⊢
  simp (maxSteps := 600000) (disch := omega) only [↓sy1, sy2, sy3, readOK, sy5, sy6, Nat.reduceEqDiff, ↓reduceIte, sy7, sy8, sy9, sya, oneOf, syb, syc, Nat.reduceAdd, Nat.reduceMul, syd, sye, syf, syg, syh, reduceCtorEq]
  refine mloop_rule (r := r) (m := m) (clk := clk) (es := es) (fun seen e w' => e 1 = .pointer (some ⟨p, 2, none⟩) ∧ e 10 = .pointer (some ⟨r, 0, none⟩) ∧ Ext (fun c => c = κ) G w G w' ∧ w'.heap[p]? = w.heap[p]? ∧ w'.heap[m]? = w.heap[m]? ∧ SafeAt G κ w' vs (flushed ls (doneQ es.toList seen q)))
    hr1 ⟨by simp [upd], by simp [upd], .grow hg1, (hg1.gheap hp).trans hp.symm, (hg1.gheap hes).trans hes.symm, ?_⟩ ?_
  · have : doneQ es.toList [] q = fun _ => [] := by funext n; simp [doneQ]
    rw [this, flushed_none]
    exact hs.ext (K := fun _ => False) (.grow hg1) id
  rintro seen e w2 hr2 ⟨h1, h10, hx, hp2, hm2, hs2⟩
  simp (maxSteps := 600000) (disch := omega) only [F130_L0, ↓sy1, sy2, sy3, readOK, sy5, sy6, Nat.reduceEqDiff, ↓reduceIte, sy7, sy8, sy9, sya, oneOf, syb, syc, Nat.reduceAdd, Nat.reduceMul, syd, sye, syf, syg, syh, reduceCtorEq]
  refine next_rule (by simp only [ev_tmp, h10]) hr2 (hm2.trans hes) hok (fun hend => ?_) (fun y hy hyn w3 hk3 hr3 => ?_)
  · have hc2 : w2.cell? ⟨p, 3, none⟩ = some (.map (some m)) := by rw [cell_block (hp2.trans hp)]; rfl
    simp (maxSteps := 600000) (disch := omega) only [↓sy1, sy2, sy3, readOK, sy5, sy6, Nat.reduceEqDiff, ↓reduceIte, sy7, sy8, sy9, sya, oneOf, syb, syc, Nat.reduceAdd, Nat.reduceMul, syd, sye, syf, syg, syh, reduceCtorEq, h1, hc2]
    refine clear_rule (m := m) (by simp only [upd_at, Nat.reduceEqDiff, reduceIte, ev_tmp, ev_const, List.map_cons, List.map_nil]) hunder (hm2.trans hes) (fun w3 hk3 hm3 => ?_)
    have hx3 : Ext (fun c => c = κ) G w2 G w3 := .onMap (hm2.trans hes) hk3 hom
    refine R_out ⟨⟨#[], clk, hm3, hom, ⟨by simp, by simp, by simp⟩, by simp, fun n hn => absurd rfl hn, by simp⟩, ?_, hx.trans hx3, ?_⟩
    · rw [← flushed_all hend hhas]
      exact hs2.keepNo hk3 (fun i v => by simp [World.cell?, hm2.trans hes]) (fun c t f => by rw [hm2.trans hes]; simp)
    · have hpm : p ≠ m := fun hc => by rw [hc, hes] at hp; cases hp
      exact (hk3.blk p (hx.lt hp |> fun h => Nat.lt_of_lt_of_le h hx.size) hpm).trans (hp2.trans hp)
  · obtain ⟨n, hyk, hyw⟩ := hall y hy
    obtain ⟨us, b, c, hyv, hu1, hu2, hne, _⟩ := hyw
    have hlen := hu2.length
    have hpos : 0 < (q n).length := List.length_pos_iff.2 hne
    have hnl := hin n hne
    have hno : ∀ i v, w2.cell? ⟨r, i, none⟩ ≠ some v := fun i v => by simp [World.cell?, hr2]
    have hs3 := hs2.keepNo hk3 hno (fun c t f => by rw [hr2]; simp)
    have hx3 : Ext (fun c => c = κ) G w G w3.drew := (hx.thenNew hk3 (fun b h => by omega)).drew
    have hpr : p ≠ r := fun hc => by have := (Array.getElem?_eq_some_iff.1 hp).1; omega
    have hmr : m ≠ r := by omega
    have hp3 : w3.drew.heap[p]? = w.heap[p]? := (hk3.blk p (Nat.lt_of_lt_of_le (Array.getElem?_eq_some_iff.1 hp).1 hx.size) hpr).trans hp2
    have hm3 : w3.drew.heap[m]? = w.heap[m]? := (hk3.blk m (Nat.lt_of_lt_of_le hml hx.size) hmr).trans hm2
    simp (maxSteps := 600000) (disch := omega) only [↓sy1, sy2, sy3, readOK, sy5, sy6, Nat.reduceEqDiff, ↓reduceIte, sy7, sy8, sy9, sya, oneOf, syb, syc, Nat.reduceAdd, Nat.reduceMul, syd, sye, syf, syg, syh, reduceCtorEq]
    refine entry_rule (by simp only [upd_at, Nat.reduceEqDiff, reduceIte, ev_tmp, ev_const, List.map_cons, List.map_nil, h10]) hr3 (hm3.trans hes) hok hy ?_
    simp (maxSteps := 600000) (disch := omega) only [↓sy1, sy2, sy3, readOK, sy5, sy6, Nat.reduceEqDiff, ↓reduceIte, sy7, sy8, sy9, sya, oneOf, syb, syc, Nat.reduceAdd, Nat.reduceMul, syd, sye, syf, syg, syh, reduceCtorEq, hyk]
    refine draw130_0 (fun _ => False) ?_
    have hr4 : w3.drew.heap[r]? = _ := hr3
    have hs4 : SafeAt G κ w3.drew vs (flushed ls (doneQ es.toList seen q)) := hs3.ext (K := fun _ => False) (.grow (Keep.refl _ _).drew) id
    generalize w3.drew = w4 at hx3 hp3 hm3 hr4 hs4 ⊢
    have hc4 : w4.cell? ⟨p, 2, none⟩ = some vs := by rw [cell_block (hp3.trans hp)]; rfl
    have huv := hu1.ext hx3
    have hrow := hu2.ext hx3
    obtain ⟨a, ha, hac, _⟩ := huv.1.idx (i := (q n).length - 1) (by omega)
    have hrb := hrow.get ((q n).length - 1) (by omega) (by omega)
    have hcast : ((us.length : Int) - 1) = (((q n).length - 1 : Nat) : Int) := by omega
    have hlast : (q n)[(q n).length - 1] = (q n).getLast hne := (List.getLast_eq_getElem hne).symm
    rw [hlast] at hrb
    generalize us[(q n).length - 1] = u at hac hrb
    obtain ⟨ts, sb, h4, h5, h6, h7, h8⟩ := hs4
    have hnl' : n < (flushed ls (doneQ es.toList seen q)).length := by rw [flushed_length]; exact hnl
    obtain ⟨a2, w5, ha2, hst, ho5, hk5, hb5⟩ := own_store h5 hnl' hrb.1.isCell
    have hlq' := hlq n
    simp (maxSteps := 600000) (disch := omega) only [PL130_0, ↓sy1, sy2, sy3, readOK, sy5, sy6, Nat.reduceEqDiff, ↓reduceIte, sy7, sy8, sy9, sya, oneOf, syb, syc, Nat.reduceAdd, Nat.reduceMul, syd, sye, syf, syg, syh, reduceCtorEq, h1, hc4, huv.1.len, hcast, ha, hac, ha2, hst]
    have hk5' : Keep (fun b => b = sb) w4 w5 := hk5.mono (fun b _ h => by rw [h4] at h; cases h; rfl)
    have hsl := World.ownsRow.lt h5 sb h4
    obtain ⟨sb', c', h1', h2', _⟩ := SafeAt.at ⟨ts, sb, h4, h5, h6, h7, h8⟩
    rw [h4] at h1'; cases h1'
    have hx5 : Ext (fun c => c = κ) G w4 G w5 := .on0 hk5' h7 h8
    have hps : p ≠ sb := fun hc => by rw [← hc, hp3.trans hp] at h2'; simp at h2'
    have hms : m ≠ sb := fun hc => by rw [← hc, hm3.trans hes] at h2'; cases h2'
    have hrs : r ≠ sb := fun hc => by rw [← hc, hr4] at h2'; cases h2'
    refine R_out (MStep.mk hr2 hy hyn (hk5'.heap hr4 hrs) ⟨by simp [upd, h1], by simp [upd, h10], hx3.trans hx5, (hk5'.blk p (hx3.lt hp |> fun h => Nat.lt_of_lt_of_le h hx3.size) hps).trans hp3, (hk5'.blk m (Nat.lt_of_lt_of_le hml hx3.size) hms).trans hm3, ?_⟩)
    rw [flushed_step hy hyk hok.born hne hnl]
    exact ⟨ts.set n u, sb, h4, by simpa using ho5, (h6.ext hx5).set n (hrb.ext hx5), h7, h8⟩
end Go.Proofs.YtienelpepioggaaGreat

/- The disk: what is made and done. -/
namespace Go.Proofs.YtienelpepioggaaGreat
open Go
set_option linter.unusedSimpArgs false
open Go.RowKit (intOf)
/-- Parts, their values reckoned. -/
def fillF (z : Array Value) : List (Nat × Nat × Value) → Option (Array Value)
  | [] => some z
  | (off, size, v) :: l => if v.cells.size ≠ size || off + v.cells.size > z.size then none
    else fillF (v.cells.zipIdx.foldl (fun cs (c, j) => cs.setIfInBounds (off + j) c) z) l
theorem fill_all {e : Env} : ∀ (l : List (Nat × Nat × Operand)) (z : Array Value), fillV e z l = fillF z (l.map fun p => (p.1, p.2.1, ev e p.2.2))
  | [], _ => rfl
  | (off, size, x) :: l, z => by
    simp only [fillV, List.map_cons, fillF]
    split
    · rfl
    · exact fill_all l _
theorem fill_gen {e : Env} {a b : Nat × Nat × Operand} {l : List (Nat × Nat × Operand)} {z : Array Value} : fillV e z (a :: b :: l) = fillF z ((a :: b :: l).map fun p => (p.1, p.2.1, ev e p.2.2)) := fill_all _ _
theorem fillF_cell {z : Array Value} {off : Nat} {v : Value} {l : List (Nat × Nat × Value)} (hv : isCell v = true) (h : off < z.size) : fillF z ((off, 1, v) :: l) = fillF (z.setIfInBounds off v) l := by
  have hc := isCell_cells hv
  rw [fillF, hc]
  simp; omega
theorem fillF_nil {z : Array Value} : fillF z [] = some z := rfl
theorem fillF_two {z : Array Value} {off : Nat} {a b : Value} {l : List (Nat × Nat × Value)} (h : off + 1 < z.size) : fillF z ((off, 2, .agg #[a, b]) :: l) = fillF ((z.setIfInBounds off a).setIfInBounds (off + 1) b) l := by
  rw [fillF]
  simp [Value.cells, Array.zipIdx]
  omega
theorem fillF_2 {a b u v : Value} (hu : isCell u = true) (hv : isCell v = true) : fillF #[a, b] [(0, 1, u), (1, 1, v)] = some #[u, v] := by
  rw [fillF_cell hu (by simp), fillF_cell hv (by simp), fillF_nil]; simp
theorem fillF_disk {a b c d u x y : Value} (hu : isCell u = true) : fillF #[a, b, c, d] [(0, 1, u), (2, 2, .agg #[x, y])] = some #[u, b, x, y] := by
  rw [fillF_cell hu (by simp), fillF_two (by simp), fillF_nil]; simp
theorem fillF_fork {a b c d u v x y : Value} (hu : isCell u = true) (hv : isCell v = true) : fillF #[a, b, c, d] [(0, 1, u), (1, 1, v), (2, 2, .agg #[x, y])] = some #[u, v, x, y] := by
  rw [fillF_cell hu (by simp), fillF_cell hv (by simp), fillF_two (by simp), fillF_nil]; simp
section
variable {w : World} {v : Value} {xs : List Value}
/-- A slice up to its own end. -/
theorem Has.slcAll (h : Has 1 w v xs) : ∃ v', slcF 1 v none (some (.int .i64 xs.length)) (some (.int .i64 xs.length)) = some v' ∧ Has 1 w v' xs ∧ (∀ a n c, v' = .slice (some a) n c → n = c) ∧ ∀ b o l c, v' = .slice (some ⟨b, o, none⟩) l c → xs ≠ [] → ∃ c', v = .slice (some ⟨b, o, none⟩) l c' := by
  rcases h with ⟨b, o, n, c, rfl, h1, h2, h3⟩ | ⟨rfl, rfl⟩
  · rw [Nat.mul_one] at h1
    refine ⟨.slice (some ⟨b, o, none⟩) n n, ?_, .inl ⟨b, o, n, n, rfl, by omega, Nat.le_refl _, h3⟩, fun a n' c' h => by cases h; rfl, fun b' o' l' c' h _ => by cases h; exact ⟨c, rfl⟩⟩
    simp only [slcF, slcV, bndV]
    rw [if_pos ⟨by omega, by omega⟩]
    simp only []
    rw [if_pos ⟨by omega, by omega⟩]
    simp [h1, add_lit]
  · exact ⟨.slice none 0 0, by simp [slcF, slcV, bndV], Has.nil 1 w, (fun a n c h => by cases h), (fun b o l c h => by cases h)⟩
end
theorem FreshR.rowsAt {B : Nat} {tr t : TypeId} {w : World} {v : Value} {ls : List (List UInt8)} {G : Gh} (h : FreshR B tr t w v ls) (hG : ∀ b, B ≤ b → maxLen ≤ G.fix b) : RowsAt G w v ls := by
  obtain ⟨vs, h1, h2⟩ := h
  have one : ∀ {t' : TypeId} {u : Value} {n : Nat} {xs : List Value}, w.ownsRow B t' 1 u n xs → HasF G w u xs := fun {t' u n xs} ho => by
    refine ⟨Has.own ho, fun b o l c hv _ => ?_⟩
    obtain ⟨hl, ⟨rfl, _⟩ | ⟨g, cap, cur, rfl, hB, _, hc, hm, _⟩⟩ := ho
    · cases hv
    · cases hv
      have := hG b hB; omega
  refine ⟨vs, one h1, ?_⟩
  clear h1
  induction vs generalizing ls with
  | nil => cases ls <;> first | trivial | exact h2.elim
  | cons u vs ih => cases ls with
    | nil => exact h2.elim
    | cons l ls => exact ⟨one h2.1, ih h2.2⟩
theorem begun_spec {G : Gh} (κ : Nat) {w : World} {v : Value} {ls : List (List UInt8)} (h : RowsAt G w v ls) (hok : (⟨ls, []⟩ : Dsk).Ok) :
    Calls Tryz.prog 15 #[v] w (Ret fun r w' => ∃ p G', r = .pointer (some ⟨p, 0, none⟩) ∧ w.heap.size ≤ p ∧ DiskAt G' κ w' p ⟨ls, []⟩ ∧ Ext0 G w G' w') := by
  obtain ⟨vs, hv, hr⟩ := h
  have hlen := hr.length
  have hmost := hok.most
  simp only at hmost
  apply enter15
  apply R_in
  simp (maxSteps := 600000) (disch := omega) only [F15, ↓sy1, sy2, sy3, readOK, sy5, sy6, Nat.reduceEqDiff, ↓reduceIte, sy7, sy8, sy9, sya, oneOf, syb, syc, Nat.reduceAdd, Nat.reduceMul, syd, sye, syf, syg, syh, reduceCtorEq]
  refine call0 (slicesClone_spec v vs w hv.1 hr.cell (by omega)) ?_
  rintro u w1 ⟨ho, hg⟩
  have huc := (Has.own ho).isCell
  have hvc := hv.1.isCell
  simp (maxSteps := 600000) (disch := omega) only [↓sy1, sy2, sy3, readOK, sy5, sy6, Nat.reduceEqDiff, ↓reduceIte, sy7, sy8, sy9, sya, oneOf, syb, syc, Nat.reduceAdd, Nat.reduceMul, syd, sye, syf, syg, syh, reduceCtorEq, fill_gen, fillF_2 huc (show isCell (.map (some w1.heap.size)) = true from rfl), fillF_disk hvc]
  have hg1 : Grow w1 (w1.alloc (.map #[] 0)) := (Keep.refl _ _).alloc _
  have hm := heap_alloc_new w1 (.map #[] 0)
  have hs1 : (w1.alloc (.map #[] 0)).heap.size = w1.heap.size + 1 := by simp
  generalize w1.alloc (.map #[] 0) = w2 at hg1 hm hs1 ⊢
  have hg2 : Grow w2 (w2.alloc (.cells (Value.agg #[v, .slice none 0 0, u, .map (some w1.heap.size)]).cells 111)) := (Keep.refl _ _).alloc _
  have hp := heap_alloc_new w2 (.cells (Value.agg #[v, .slice none 0 0, u, .map (some w1.heap.size)]).cells 111)
  generalize w2.alloc (.cells (Value.agg #[v, .slice none 0 0, u, .map (some w1.heap.size)]).cells 111) = w3 at hg2 hp ⊢
  have hgw : Grow w w3 := (hg.trans hg1).trans hg2
  have hx : Ext0 G w (G.upto w.heap.size (fun _ => κ) (fun _ => 0)) w3 := .upto hgw _ _
  have hge := hg.size
  have hge2 := hg1.size
  have hno : ∀ b, w.heap.size ≤ b → (G.upto w.heap.size (fun _ => κ) (fun _ => 0)).own b = κ ∧ (G.upto w.heap.size (fun _ => κ) (fun _ => 0)).fix b = 0 := fun b hb => by simp [Gh.upto, Nat.not_lt.2 hb]
  refine R_out ⟨w2.heap.size, _, rfl, by omega, ⟨hok, by simp, v, .slice none 0 0, u, w1.heap.size, hp, (hno _ (by omega)).1, (hno _ (by omega)).2, ⟨vs, hv.ext hx, hr.ext hx⟩, ⟨[], HasF.nil _ _, trivial⟩, ?_, ?_⟩, hx⟩
  · have ho3 := own_grow (ho) (hg1.trans hg2)
    obtain ⟨_, ⟨hn, hz⟩ | ⟨g, cap, cur, hu, hB, _⟩⟩ := id ho3
    · have := hok.some; simp only at this; omega
    · exact ⟨vs, g, by rw [hu]; rfl, by rw [Dsk.safe_new, ← hlen]; exact own_base ho3 (Nat.zero_le _), hr.ext hx, (hno g hB).1, (hno g hB).2⟩
  · exact ⟨#[], 0, hg2.gheap hm, (hno _ (by omega)).1, ⟨by simp, by simp, by simp⟩, by simp, fun n hn => absurd rfl hn, by simp⟩
theorem bs_zsec : bs zsec = List.replicate 512 (.int .u8 0) := by
  simp only [bs, zsec, List.map_replicate]; rfl
theorem new_spec (G : Gh) (κ : Nat) {n : Nat} {w : World} (h1 : 1 ≤ n) (h2 : n ≤ 4096) :
    Calls Tryz.prog 4 #[.int .i64 n] w (Ret fun v w' => ∃ p G', v = .tuple #[.pointer (some ⟨p, 0, none⟩), .int .i64 0] ∧ w.heap.size ≤ p ∧ DiskAt G' κ w' p (Dsk.zero n) ∧ Ext0 G w G' w') := by
  apply enter4
  apply R_in
  have hn1 : ¬ ((n : Int) < 1) := by omega
  have hn2 : ¬ ((4096 : Int) < n) := by omega
  simp (maxSteps := 600000) (disch := omega) only [F4, ↓sy1, sy2, sy3, readOK, sy5, sy6, Nat.reduceEqDiff, ↓reduceIte, sy7, sy8, sy9, sya, oneOf, syb, syc, Nat.reduceAdd, Nat.reduceMul, syd, sye, syf, syg, syh, reduceCtorEq, hn1, hn2, decide_false]
  refine mk_rule elemR (kx := .i64) (ky := .i64) (a := n) (c := n) (by simp only [upd_at, Nat.reduceEqDiff, reduceIte, ev_tmp, ev_const, List.map_cons, List.map_nil]) (by simp only [upd_at, Nat.reduceEqDiff, reduceIte, ev_tmp, ev_const, List.map_cons, List.map_nil]) (by omega) (by omega) (by omega) (by omega) rfl ?_
  have hg0 : Grow w (w.alloc (.cells (Array.replicate (n : Int).toNat (.slice none 0 0)) 46)) := (Keep.refl _ _).alloc _
  have ho0 := own_made w w.heap.size (Nat.le_refl _) 46 (n : Int).toNat (by simp; omega) (.slice none 0 0)
  generalize w.alloc (.cells (Array.replicate (n : Int).toNat (.slice none 0 0)) 46) = w0 at hg0 ho0 ⊢
  simp only [Int.toNat_natCast] at ho0 ⊢
  simp (maxSteps := 600000) (disch := omega) only [↓sy1, sy2, sy3, readOK, sy5, sy6, Nat.reduceEqDiff, ↓reduceIte, sy7, sy8, sy9, sya, oneOf, syb, syc, Nat.reduceAdd, Nat.reduceMul, syd, sye, syf, syg, syh, reduceCtorEq, (Has.own ho0).len, List.length_replicate]
  generalize (Value.slice (some ⟨w.heap.size, 0, none⟩) n n) = out at ho0 ⊢
  refine loop_rule (fun e w' => ∃ (i : Nat) (vs : List Value), i ≤ n ∧ e 16 = .int .i64 i ∧ e 15 = .int .i64 n ∧ e 4 = out ∧ Grow w w' ∧ vs.length = i ∧
      w'.ownsRow w.heap.size 46 1 out n (vs ++ List.replicate (n - i) (.slice none 0 0)) ∧ RowsO w.heap.size 5 w' vs (List.replicate i zsec)) (fun e _ => n - (intOf (e 16)).toNat)
    ⟨0, [], by omega, by simp [upd], by simp [upd], by simp [upd], hg0, rfl, by simpa using ho0, trivial⟩ ?_
  rintro e w1 ⟨i, vs, hi, h16, h15, h4, hg, hvl, ho, hr⟩
  by_cases hlt : i < n
  · simp (maxSteps := 600000) (disch := omega) only [F4_L0, ↓sy1, sy2, sy3, readOK, sy5, sy6, Nat.reduceEqDiff, ↓reduceIte, sy7, sy8, sy9, sya, oneOf, syb, syc, Nat.reduceAdd, Nat.reduceMul, syd, sye, syf, syg, syh, reduceCtorEq, h16, h15, h4, Int.ofNat_lt, hlt, decide_true]
    refine mk_rule elemB (kx := .i64) (ky := .i64) (a := 512) (c := 512) (by simp only [upd_at, Nat.reduceEqDiff, reduceIte, ev_tmp, ev_const, List.map_cons, List.map_nil]) (by simp only [upd_at, Nat.reduceEqDiff, reduceIte, ev_tmp, ev_const, List.map_cons, List.map_nil]) (by omega) (by omega) (by omega) (by omega) rfl ?_
    have hg2 : Grow w1 (w1.alloc (.cells (Array.replicate (512 : Int).toNat (.int .u8 0)) 5)) := (Keep.refl _ _).alloc _
    have hv := own_made w1 w1.heap.size (Nat.le_refl _) 5 (512 : Int).toNat (by decide) (.int .u8 0)
    generalize w1.alloc (.cells (Array.replicate (512 : Int).toNat (.int .u8 0)) 5) = w2 at hg2 hv ⊢
    rw [show (512 : Int).toNat = 512 from rfl] at hv ⊢
    generalize (Value.slice (some ⟨w1.heap.size, 0, none⟩) 512 512) = v at hv ⊢
    rw [← bs_zsec] at hv
    have ho2 := own_grow ho hg2
    obtain ⟨a, w3, ha, hst, ho3, hk3, hbk⟩ := own_store ho2 hlt (Has.own hv).isCell
    simp (maxSteps := 600000) (disch := omega) only [↓sy1, sy2, sy3, readOK, sy5, sy6, Nat.reduceEqDiff, ↓reduceIte, sy7, sy8, sy9, sya, oneOf, syb, syc, Nat.reduceAdd, Nat.reduceMul, syd, sye, syf, syg, syh, reduceCtorEq, h16, h15, h4, ha, hst]
    have hgw : Grow w w3 := (hg.trans hg2).then hk3 (fun b hb h => by
      obtain ⟨hbb, _⟩ := World.ownsRow.lt ho2 b h; omega)
    refine R_out ⟨⟨i + 1, vs ++ [v], by omega, rfl, hgw, by simp [hvl], ?_, ?_⟩, ?_⟩
    · have : (vs ++ List.replicate (n - i) (Value.slice none 0 0)).set i v = (vs ++ [v]) ++ List.replicate (n - (i + 1)) (.slice none 0 0) := by
        rw [List.set_append_right _ _ (by omega), hvl, Nat.sub_self, show n - i = (n - (i + 1)) + 1 from by omega, List.replicate_succ]
        simp
      rw [this] at ho3; exact ho3
    · rw [List.replicate_succ']
      refine RowsO.snoc ((hr.grow hg2).keep hk3 (fun b hb u' n' xs' hu' => own_ne ho2 hu' (by decide) hb)) ?_
      rw [zsec_length]
      exact own_keep (own_base hv hg.size) hk3 (fun b hb hS => own_ne ho2 (own_base hv hg.size) (by decide) hS hb)
    · simp only [intOf]; omega
  · simp (maxSteps := 600000) (disch := omega) only [F4_L0, ↓sy1, sy2, sy3, readOK, sy5, sy6, Nat.reduceEqDiff, ↓reduceIte, sy7, sy8, sy9, sya, oneOf, syb, syc, Nat.reduceAdd, Nat.reduceMul, syd, sye, syf, syg, syh, reduceCtorEq, h16, h15, h4, Int.ofNat_lt, hlt, decide_false]
    have hie : i = n := by omega
    subst hie
    have hf : FreshR w.heap.size 46 5 w1 out (List.replicate i zsec) := ⟨vs, by simpa using ho, hr⟩
    have hx : Ext0 G w (G.upto w.heap.size (fun _ => 0) (fun _ => maxLen)) w1 := .upto hg _ _
    have hra : RowsAt (G.upto w.heap.size (fun _ => 0) (fun _ => maxLen)) w1 out (List.replicate i zsec) := hf.rowsAt (fun b hb => by simp [Gh.upto, Nat.not_lt.2 hb])
    refine call0 (begun_spec κ hra (Dsk.zero_ok h1 h2)) ?_
    rintro v w2 ⟨p, G', rfl, hp, hd, hx2⟩
    simp (maxSteps := 600000) (disch := omega) only [↓sy1, sy2, sy3, readOK, sy5, sy6, Nat.reduceEqDiff, ↓reduceIte, sy7, sy8, sy9, sya, oneOf, syb, syc, Nat.reduceAdd, Nat.reduceMul, syd, sye, syf, syg, syh, reduceCtorEq]
    exact R_out ⟨p, G', rfl, Nat.le_trans hg.size hp, hd, hx.trans hx2⟩
end Go.Proofs.YtienelpepioggaaGreat

/- The disk: reads, writes, flushes. -/
namespace Go.Proofs.YtienelpepioggaaGreat
open Go
set_option linter.unusedSimpArgs false
open Go.RowKit (intOf)
theorem DiskAt.ok {G : Gh} {κ : Nat} {w : World} {p : Nat} {D : Dsk} (h : DiskAt G κ w p D) : D.Ok := h.1
theorem DiskAt.lt {G : Gh} {κ : Nat} {w : World} {p : Nat} {D : Dsk} (h : DiskAt G κ w p D) : p < w.heap.size := by
  obtain ⟨_, _, vf, vl, vs, m, hp, _⟩ := h; exact (Array.getElem?_eq_some_iff.1 hp).1
theorem image_get {D : Dsk} {n : Nat} (h : n < D.first.length) : D.image[n]'(by rw [D.image_length]; exact h) = lastOr (D.wait n) (D.safe[n]'(by rw [D.safe_length]; exact h)) := D.image_get n _ _

theorem Dsk.wait_length (D : Dsk) (n : Nat) : (D.wait n).length ≤ D.ops.length := by
  have : ∀ (l : List DOp) (s : DState), ((l.foldl dstep s).2 n).length ≤ (s.2 n).length + l.length := by
    intro l
    induction l with
    | nil => intro s; simp
    | cons o l ih =>
      intro s
      rw [List.foldl_cons]
      refine Nat.le_trans (ih _) ?_
      obtain ⟨s, q⟩ := s
      cases o with
      | wr k b =>
        simp only [dstep, List.length_cons]
        by_cases h : n = k
        · subst h; simp; omega
        · simp only [if_neg h]; omega
      | fl => simp only [dstep, List.length_nil, List.length_cons]; omega
  have := this D.ops (D.first, fun _ => [])
  simpa [Dsk.wait, Dsk.st] using this
theorem readS_spec {G : Gh} {κ : Nat} {w : World} {p n : Nat} {D : Dsk} (h : DiskAt G κ w p D) (hn : n < D.first.length) :
    Calls Tryz.prog 76 #[.pointer (some ⟨p, 2, none⟩), .int .i64 n] w (Ret fun v w' => w' = w ∧ HasFB G w v (D.image[n]'(by rw [D.image_length]; exact hn))) := by
  obtain ⟨hok, hl, vf, vl, vs, m, hp, ho, hf, h1, h2, hs, hw⟩ := h
  have hc2 : w.cell? ⟨p, 2, none⟩ = some vs := by rw [cell_block hp]; rfl
  have hc3 : w.cell? ⟨p, 3, none⟩ = some (.map (some m)) := by rw [cell_block hp]; rfl
  rw [image_get hn]
  apply enter76
  apply R_in
  rcases hw.lkp n with ⟨hq, hlk⟩ | ⟨v, hlk, us, b, c, rfl, hu, hr, hne, _⟩
  · obtain ⟨ts, sb, h4, h5, h6, h7, h8⟩ := hs
    have hlen := h6.length
    have hsl := D.safe_length
    obtain ⟨a, ha, hac, _⟩ := (Has.own h5).idx (i := n) (by omega)
    simp (maxSteps := 600000) (disch := omega) only [F76, ↓sy1, sy2, sy3, readOK, sy5, sy6, Nat.reduceEqDiff, ↓reduceIte, sy7, sy8, sy9, sya, oneOf, syb, syc, Nat.reduceAdd, Nat.reduceMul, syd, sye, syf, syg, syh, reduceCtorEq, hc2, hc3, hlk, ha, hac, show ¬ ((0 : Int) < ((0 : Nat) : Int)) from by omega, decide_false]
    refine R_out ?_
    rw [hq]
    simp only [lastOr, List.getLast?_nil, Option.getD_none]
    exact h6.get n (by omega) (by omega)
  · have hlen := hr.length
    have hpos : 0 < (D.wait n).length := List.length_pos_iff.2 hne
    obtain ⟨a, ha, hac, _⟩ := hu.1.idx (i := (D.wait n).length - 1) (by omega)
    have hcast : (((D.wait n).length : Int) - 1) = (((D.wait n).length - 1 : Nat) : Int) := by omega
    have hcap := D.wait_length n
    simp (maxSteps := 600000) (disch := omega) only [F76, ↓sy1, sy2, sy3, readOK, sy5, sy6, Nat.reduceEqDiff, ↓reduceIte, sy7, sy8, sy9, sya, oneOf, syb, syc, Nat.reduceAdd, Nat.reduceMul, syd, sye, syf, syg, syh, reduceCtorEq, hc2, hc3, hlk, show ((0 : Int) < ((D.wait n).length : Int)) from by omega, decide_true, hcast, ha, hac]
    refine R_out ?_
    rw [lastOr, List.getLast?_eq_some_getLast hne, Option.getD_some, List.getLast_eq_getElem hne]
    exact hr.get _ (by omega) (by omega)
theorem read_spec {G : Gh} {κ : Nat} {w : World} {p n : Nat} {D : Dsk} (h : DiskAt G κ w p D) (hn : n < D.first.length) :
    Calls Tryz.prog 45 #[.pointer (some ⟨p, 0, none⟩), .int .i64 n] w (Ret fun v w' => ∃ u, v = .tuple #[u, .int .i64 0] ∧ w'.ownsRow w.heap.size 5 1 u 512 (bs (D.image[n]'(by rw [D.image_length]; exact hn))) ∧ Grow w w') := by
  have hr := readS_spec h hn
  have h512 := h.ok.image _ (List.getElem_mem (by rw [D.image_length]; exact hn))
  obtain ⟨hok, hl, vf, vl, vs, m, hp, ho, hf, h1, h2, hs, hw⟩ := h
  have hc0 : w.cell? ⟨p, 0, none⟩ = some vf := by rw [cell_block hp]; rfl
  apply enter45
  apply R_in
  simp (maxSteps := 600000) (disch := omega) only [F45, ↓sy1, sy2, sy3, readOK, sy5, sy6, Nat.reduceEqDiff, ↓reduceIte, sy7, sy8, sy9, sya, oneOf, syb, syc, Nat.reduceAdd, Nat.reduceMul, syd, sye, syf, syg, syh, reduceCtorEq, hc0, h1.has.len, show ¬ ((n : Int) < 0) from by omega, show ¬ ((D.first.length : Int) ≤ n) from by omega, decide_false]
  refine call0 hr ?_
  rintro v w1 ⟨rfl, hv⟩
  simp (maxSteps := 600000) (disch := omega) only [↓sy1, sy2, sy3, readOK, sy5, sy6, Nat.reduceEqDiff, ↓reduceIte, sy7, sy8, sy9, sya, oneOf, syb, syc, Nat.reduceAdd, Nat.reduceMul, syd, sye, syf, syg, syh, reduceCtorEq]
  refine call0 (bytesClone_spec v _ w1 hv.1 (by omega)) ?_
  rintro u w2 ⟨hu, hg⟩
  simp (maxSteps := 600000) (disch := omega) only [↓sy1, sy2, sy3, readOK, sy5, sy6, Nat.reduceEqDiff, ↓reduceIte, sy7, sy8, sy9, sya, oneOf, syb, syc, Nat.reduceAdd, Nat.reduceMul, syd, sye, syf, syg, syh, reduceCtorEq]
  rw [h512] at hu
  exact R_out ⟨u, rfl, hu, hg⟩
theorem sectors_spec {G : Gh} {κ : Nat} {w : World} {p : Nat} {D : Dsk} (h : DiskAt G κ w p D) :
    Calls Tryz.prog 16 #[.pointer (some ⟨p, 0, none⟩)] w (Ret fun v w' => v = .int .i64 D.first.length ∧ w' = w) := by
  obtain ⟨hok, hl, vf, vl, vs, m, hp, ho, hf, h1, h2, hs, hw⟩ := h
  have hc0 : w.cell? ⟨p, 0, none⟩ = some vf := by rw [cell_block hp]; rfl
  apply enter16
  apply R_in
  simp (maxSteps := 600000) (disch := omega) only [F16, ↓sy1, sy2, sy3, readOK, sy5, sy6, Nat.reduceEqDiff, ↓reduceIte, sy7, sy8, sy9, sya, oneOf, syb, syc, Nat.reduceAdd, Nat.reduceMul, syd, sye, syf, syg, syh, reduceCtorEq, hc0, h1.has.len]
  exact R_out trivial
theorem OpsAt.len {G : Gh} {w : World} {v : Value} {os : List DOp} (h : OpsAt G w v os) (w2 : World) : lenF w2 0 v = some (.int .i64 os.length) := by
  obtain ⟨vs, h1, h2⟩ := h; rw [h1.1.len, h2.length]
end Go.Proofs.YtienelpepioggaaGreat

/- The disk: what is done. -/
namespace Go.Proofs.YtienelpepioggaaGreat
open Go
set_option linter.unusedSimpArgs false
open Go.RowKit (intOf)
theorem elemO : ElemIs Tryz.prog 109 149 1 16 .nilIface := elem_of (by kernel_rfl)
/-- A store into a cell of a block. -/
theorem cell_store {w : World} {p i : Nat} {cs : Array Value} {t : TypeId} (h : w.heap[p]? = some (.cells cs t (0, 0))) (hi : i < cs.size) {u : Value} (hu : isCell u = true) :
    ∃ w', stF w (.pointer (some ⟨p, i, none⟩)) u = some (undef, w') ∧ w'.heap[p]? = some (.cells (cs.setIfInBounds i u) t (0, 0)) ∧ Keep (fun b => b = p) w w' := by
  have hc : w.cell? ⟨p, i, none⟩ = some cs[i] := by rw [cell_block h]; exact Array.getElem?_eq_getElem hi
  refine ⟨w.setCell ⟨p, i, none⟩ u, stF_p hu hc (frozen_block h i), ?_, (Keep.refl _ _).setCell u (fun _ => rfl)⟩
  have hg : p < w.heap.size := (Array.getElem?_eq_some_iff.1 h).1
  simp only [World.setCell, Array.getElem?_modify, if_pos rfl, h, Option.map_some]
  simp
section
variable {K : Nat → Prop} {G G' : Gh} {κ : Nat} {w w' : World}
theorem SafeAt.stand {v : Value} {ls : List (List UInt8)} (h : SafeAt G κ w v ls) (hx : Ext K G w G' w') (hs : ∀ b c, w.heap[b]? = some (.cells c 46 (0, 0)) → G.own b = κ → G.fix b = 0 → w'.heap[b]? = w.heap[b]? ∧ G'.fix b = 0) : SafeAt G' κ w' v ls := by
  obtain ⟨sb', c', h1', h2', h3', h4'⟩ := h.at
  obtain ⟨h6, h7⟩ := hs sb' c' h2' h3' h4'
  obtain ⟨us, sb, h1, h2, h3, h4, h5⟩ := h
  rw [h1] at h1'; cases h1'
  refine ⟨us, sb', h1, ?_, h3.ext hx, by rw [hx.own sb' (Array.getElem?_eq_some_iff.1 h2').1]; exact h4, h7⟩
  obtain ⟨h10, h | ⟨g, cap, cur, hv, h11, h12, h13⟩⟩ := h2
  · exact ⟨h10, .inl h⟩
  · refine ⟨h10, .inr ⟨g, cap, cur, hv, h11, ?_, h13⟩⟩
    rw [hv] at h1; cases h1
    rw [h6]; exact h12
theorem WaitAt.stand {m : Nat} {q : Nat → List (List UInt8)} (h : WaitAt G κ w m q) (hx : Ext K G w G' w') (hm : w'.heap[m]? = w.heap[m]?) (hs : ∀ b c, w.heap[b]? = some (.cells c 46 (0, 0)) → G.own b = κ → 0 < G.fix b → w'.heap[b]? = w.heap[b]? ∧ G'.fix b = G.fix b) : WaitAt G' κ w' m q := by
  obtain ⟨es, clk, h1, h2, h3, h4, h5, h6⟩ := h
  refine ⟨es, clk, hm.trans h1, by rw [hx.own m (hx.lt h1)]; exact h2, h3, fun y hy => ?_, h5, h6⟩
  obtain ⟨n, h7, h8⟩ := h4 y hy
  refine ⟨n, h7, h8.keep hx (fun b hb => ?_)⟩
  obtain ⟨h9, h10, h11, h12, c, h13⟩ := h8.spare hb
  exact hs b c h13 h10 (by omega)
end
/-- Behind the note of an operation: the disk's block is new, all else stands. -/
theorem note_rule {G : Gh} {κ : Nat} {w : World} {p : Nat} {D : Dsk} {o : DOp} {vo : Value} {Φ : Value → World → Prop} (h : DiskAt G κ w p D) (ho : OpF G w vo o) (hl : D.ops.length < 1000000)
    (next : ∀ (w' : World) (G' : Gh) (e : Env) (vf vl vs : Value) (m : Nat), e 0 = .pointer (some ⟨p, 0, none⟩) → e 1 = vo → Ext (fun c => c = κ) G w G' w' → w'.heap[p]? = some (.cells #[vf, vl, vs, .map (some m)] 111 (0, 0)) → G'.own p = κ → G'.fix p = 0 → RowsAt G' w' vf D.first → OpsAt G' w' vl (D.ops ++ [o]) → SafeAt G' κ w' vs D.safe → WaitAt G' κ w' m D.wait →
      R (symS 33 Tryz.prog (.raw (rawOf Tryz.f79 1)) ⟨fun e w => Φ (.tuple #[]) w, fun _ _ _ => False, fun e w => Φ (.tuple #[]) w, NoPanic⟩ e w')) :
    Calls Tryz.prog 79 #[.pointer (some ⟨p, 0, none⟩), vo] w (Ret Φ) := by
  obtain ⟨hok, hl', vf, vl, vs, m, hp, hown, hf, h1, ⟨xs, h2, h2'⟩, hs, hw⟩ := h
  apply enter79
  apply R_in
  simp (maxSteps := 600000) (disch := omega) only [F79, ↓sy1, sy2, sy3, readOK, sy5, sy6, Nat.reduceEqDiff, ↓reduceIte, sy7, sy8, sy9, sya, oneOf, syb, syc, Nat.reduceAdd, Nat.reduceMul, syd, sye, syf, syg, syh, reduceCtorEq]
  have hoc := ho.cell
  refine draw79_0 (fun _ => False) ?_
  have hgd : Grow w w.drew := (Keep.refl _ _).drew
  have hx0 : Ext (fun c => c = κ) G w G w.drew := .grow hgd
  have hp0 : w.drew.heap[p]? = _ := hp
  have hpl := (Array.getElem?_eq_some_iff.1 hp).1
  have h10 := h1.ext (κ := fun _ => False) (.grow hgd)
  have h20 := h2.ext (κ := fun _ => False) (.grow hgd)
  have h20' := h2'.ext (κ := fun _ => False) (.grow hgd)
  have hs0 := hs.ext (K := fun _ => False) (.grow hgd) id
  have hw0 := hw.ext (K := fun _ => False) (.grow hgd) id
  have ho0 := ho.ext (κ := fun _ => False) (.grow hgd)
  have hgs := hgd.size
  generalize w.drew = w0 at hgd hx0 hp0 h10 h20 h20' hs0 hw0 ho0 hgs ⊢
  have hc1 : w0.cell? ⟨p, 1, none⟩ = some vl := by rw [cell_block hp0]; rfl
  obtain ⟨v', hslc, hv', hfull, _⟩ := h20.1.slcAll
  have hlen := h20'.length
  simp (maxSteps := 600000) (disch := omega) only [PL79_0, ↓sy1, sy2, sy3, readOK, sy5, sy6, Nat.reduceEqDiff, ↓reduceIte, sy7, sy8, sy9, sya, oneOf, syb, syc, Nat.reduceAdd, Nat.reduceMul, syd, sye, syf, syg, syh, reduceCtorEq, hc1, h20.1.len, hslc, oneF_cell hoc]
  have hg1 : Grow w0 (w0.alloc (.cells #[vo] 149)) := (Keep.refl _ _).alloc _
  have hsrc : Has 1 (w0.alloc (.cells #[vo] 149)) (.slice (some ⟨w0.heap.size, 0, none⟩) 1 1) [vo] := Has.new1
  generalize w0.alloc (.cells #[vo] 149) = w1 at hg1 hsrc ⊢
  refine ⟨hg1, ?_⟩
  refine app_full elemO (by simp only [upd_at, Nat.reduceEqDiff, reduceIte, ev_tmp, ev_const, List.map_cons, List.map_nil]) (by simp only [upd_at, Nat.reduceEqDiff, reduceIte, ev_tmp, ev_const, List.map_cons, List.map_nil]) (hv'.grow hg1) hfull hsrc hoc (by omega) (by omega) ?_
  intro c w2 hg2 hown2
  have hx1 : Ext (fun _ => False) G w0 (G.at w1.heap.size κ (xs.length + 1)) w2 := (Ext.grow hg1).trans (.fresh hg2 (Nat.le_refl _))
  have hpw : p < w1.heap.size := Nat.lt_of_lt_of_le (Nat.lt_of_lt_of_le hpl hgs) hg1.size
  have hp2 := hg2.gheap (hg1.gheap hp0)
  obtain ⟨w3, hst, hp3, hk3⟩ := cell_store hp2 (i := 1) (by simp) (u := .slice (some ⟨w1.heap.size, 0, none⟩) (xs.length + 1) c) rfl
  have hcap2 := (Has.own hown2).isCell
  simp (maxSteps := 600000) (disch := omega) only [↓sy1, sy2, sy3, readOK, sy5, sy6, Nat.reduceEqDiff, ↓reduceIte, sy7, sy8, sy9, sya, oneOf, syb, syc, Nat.reduceAdd, Nat.reduceMul, syd, sye, syf, syg, syh, reduceCtorEq, hst]
  have hx3 : Ext (fun c => c = κ) (G.at w1.heap.size κ (xs.length + 1)) w2 (G.at w1.heap.size κ (xs.length + 1)) w3 := .on0 hk3 (by rw [Gh.at_own' (by omega)]; exact hown) (by rw [Gh.at_fix' (by omega)]; exact hf)
  have hne : ∀ b cc, w2.heap[b]? = some (Obj.cells cc 46 (0, 0)) → w3.heap[b]? = w2.heap[b]? := fun b cc hb => hk3.blk b (Array.getElem?_eq_some_iff.1 hb).1 (fun hc => by rw [hc, hp2] at hb; simp at hb)
  have hmm : ∀ mm q, WaitAt (G.at w1.heap.size κ (xs.length + 1)) κ w2 mm q → w3.heap[mm]? = w2.heap[mm]? := fun mm q h => by
    obtain ⟨es, clk, h, _⟩ := h
    exact hk3.blk mm (Array.getElem?_eq_some_iff.1 h).1 (fun hc => by rw [hc, hp2] at h; cases h)
  have hw2 := hw0.ext hx1 id
  refine R_in (next w3 (G.at w1.heap.size κ (xs.length + 1)) _ vf (.slice (some ⟨w1.heap.size, 0, none⟩) (xs.length + 1) c) vs m (by simp [upd]) (by simp [upd]) ((hx0.trans (hx1.mono (fun _ h => h.elim))).trans hx3) (by simpa using hp3) (by rw [Gh.at_own' (by omega)]; exact hown) (by rw [Gh.at_fix' (by omega)]; exact hf)
    ((h10.ext hx1).ext hx3) ⟨xs ++ [vo], ⟨?_, fun b o l c' hv _ => ?_⟩, ((h20'.ext hx1).snoc (ho0.ext hx1)).ext hx3⟩ ((hs0.ext hx1 id).stand hx3 (fun b cc hb _ hf => ⟨hne b cc hb, hf⟩)) (hw2.stand hx3 (hmm _ _ hw2) (fun b cc hb _ _ => ⟨hne b cc hb, rfl⟩)))
  · exact (Has.own hown2).keep hk3 (fun b hb _ hbp => by
      cases hb
      have : w1.heap.size = p := hbp
      omega)
  · cases hv; rw [Gh.at_fix]; simp
theorem methW : methFn Tryz.prog 142 "dunnage/disk.on" = some 129 := by kernel_rfl
theorem methF : methFn Tryz.prog 143 "dunnage/disk.on" = some 130 := by kernel_rfl
theorem doWrite_spec {G : Gh} {κ : Nat} {w : World} {p n : Nat} {D : Dsk} {u : Value} {b : List UInt8} (h : DiskAt G κ w p D) (hn : n < D.first.length) (hb : b.length = 512) (hu : HasFB G w u b) (hl : D.ops.length < 1000000) :
    Calls Tryz.prog 79 #[.pointer (some ⟨p, 0, none⟩), .iface 142 (.agg #[.int .i64 n, u])] w (Ret fun _ w' => ∃ G', DiskAt G' κ w' p (D.add (.wr n b)) ∧ Ext (fun c => c = κ) G w G' w') := by
  have hok := h.ok
  have hplt := h.lt
  refine note_rule (o := .wr n b) h ⟨u, rfl, hu⟩ hl ?_
  intro w1 G1 e vf vl vs m he0 he1 hx hp hown hf h1 h2 hs hw
  refine draw79_1 (fun _ => False) ?_
  have hgd : Grow w1 w1.drew := (Keep.refl _ _).drew
  have hnm := nilF_m (c := #[]) (nilM_ok methW (.agg #[.int .i64 n, u]))
  simp (maxSteps := 600000) (disch := omega) only [PL79_1, ↓sy1, sy2, sy3, readOK, sy5, sy6, Nat.reduceEqDiff, ↓reduceIte, sy7, sy8, sy9, sya, oneOf, syb, syc, Nat.reduceAdd, Nat.reduceMul, syd, sye, syf, syg, syh, reduceCtorEq, he0, he1, hnm]
  have hx0 : Ext (fun c => c = κ) G1 w1 G1 w1.drew := .grow hgd
  have hu1 := (hu.ext hx).ext hx0
  have hq := D.wait_length n
  refine invoke_rule (u := .agg #[.int .i64 n, u]) (vs := [.pointer (some ⟨p, 2, none⟩)]) methW (by simp only [upd_at, Nat.reduceEqDiff, reduceIte, ev_tmp, ev_const, List.map_cons, List.map_nil]) (by simp only [upd_at, Nat.reduceEqDiff, reduceIte, ev_tmp, ev_const, List.map_cons, List.map_nil]) (onWrite_spec (n := n) (u := u) (hgd.gheap hp) (hw.ext (K := fun _ => False) (.grow hgd) id) hu1 (by omega)) ?_
  rintro v w2 ⟨_, G2, hw2, hx2, hst⟩
  obtain ⟨es, clk, hes, _⟩ := hw
  have hpm : p ≠ m := fun hc => by rw [hc, hes] at hp; cases hp
  obtain ⟨hp2, hf2⟩ := hst p (Nat.lt_of_lt_of_le hplt (hx.trans hx0).size) hf hpm
  refine R_out ⟨G2, ⟨hok.wr hn hb, by simp [Dsk.add]; omega, vf, vl, vs, m, hp2.trans (hgd.gheap hp), by rw [hx2.own p (Nat.lt_of_lt_of_le hplt (hx.trans hx0).size)]; exact hown, hf2, (h1.ext hx0).ext hx2, (h2.ext hx0).ext hx2, ?_, ?_⟩, (hx.trans hx0).trans hx2⟩
  · rw [D.safe_wr]
    refine (hs.ext (K := fun _ => False) (.grow hgd) id).stand hx2 (fun bb cc hb _ hf => hst bb (Array.getElem?_eq_some_iff.1 hb).1 hf (fun hc => ?_))
    rw [hc, hgd.gheap hes] at hb; cases hb
  · rw [D.wait_wr]; exact hw2
theorem doFlush_spec {G : Gh} {κ : Nat} {w : World} {p : Nat} {D : Dsk} (h : DiskAt G κ w p D) (hl : D.ops.length < 1000000) :
    Calls Tryz.prog 79 #[.pointer (some ⟨p, 0, none⟩), .iface 143 (.agg #[])] w (Ret fun _ w' => ∃ G', DiskAt G' κ w' p (D.add .fl) ∧ Ext (fun c => c = κ) G w G' w') := by
  have hok := h.ok
  have hplt := h.lt
  refine note_rule (o := .fl) h rfl hl ?_
  intro w1 G1 e vf vl vs m he0 he1 hx hp hown hf h1 h2 hs hw
  refine draw79_1 (fun _ => False) ?_
  have hgd : Grow w1 w1.drew := (Keep.refl _ _).drew
  have hnm := nilF_m (c := #[]) (nilM_ok methF (.agg #[]))
  simp (maxSteps := 600000) (disch := omega) only [PL79_1, ↓sy1, sy2, sy3, readOK, sy5, sy6, Nat.reduceEqDiff, ↓reduceIte, sy7, sy8, sy9, sya, oneOf, syb, syc, Nat.reduceAdd, Nat.reduceMul, syd, sye, syf, syg, syh, reduceCtorEq, he0, he1, hnm]
  have hx0 : Ext (fun c => c = κ) G1 w1 G1 w1.drew := .grow hgd
  refine invoke_rule (vs := [.pointer (some ⟨p, 2, none⟩)]) methF (by simp only [upd_at, Nat.reduceEqDiff, reduceIte, ev_tmp, ev_const, List.map_cons, List.map_nil]) (by simp only [upd_at, Nat.reduceEqDiff, reduceIte, ev_tmp, ev_const, List.map_cons, List.map_nil]) (onFlush_spec (hgd.gheap hp) (hw.ext (K := fun _ => False) (.grow hgd) id) (hs.ext (K := fun _ => False) (.grow hgd) id) (fun n hn => by rw [D.safe_length]; exact hok.waits hn) (fun n => by have := D.wait_length n; omega)) ?_
  rintro v w2 ⟨_, hw2, hs2, hx2, hp2⟩
  refine R_out ⟨G1, ⟨hok.fl, by simp [Dsk.add]; omega, vf, vl, vs, m, hp2, hown, hf, (h1.ext hx0).ext hx2, (h2.ext hx0).ext hx2, ?_, ?_⟩, (hx.trans hx0).trans hx2⟩
  · rw [D.safe_fl]; exact hs2
  · rw [D.wait_fl]; exact hw2
/-- A write that is taken. -/
theorem write_spec {G : Gh} {κ : Nat} {w : World} {p n : Nat} {D : Dsk} {u : Value} {b : List UInt8} (h : DiskAt G κ w p D) (hn : n < D.first.length) (hb : b.length = 512) (hu : HasB w u b) (hl : D.ops.length < 1000000) :
    Calls Tryz.prog 49 #[.pointer (some ⟨p, 0, none⟩), .int .i64 n, u] w (Ret fun v w' => v = .int .i64 0 ∧ ∃ G', DiskAt G' κ w' p (D.add (.wr n b)) ∧ Ext (fun c => c = κ) G w G' w') := by
  obtain ⟨hok, hl', vf, vl, vs, m, hp, ho, hf, h1, h2, hs, hw⟩ := id h
  have hc0 : w.cell? ⟨p, 0, none⟩ = some vf := by rw [cell_block hp]; rfl
  apply enter49
  apply R_in
  simp (maxSteps := 600000) (disch := omega) only [F49, ↓sy1, sy2, sy3, readOK, sy5, sy6, Nat.reduceEqDiff, ↓reduceIte, sy7, sy8, sy9, sya, oneOf, syb, syc, Nat.reduceAdd, Nat.reduceMul, syd, sye, syf, syg, syh, reduceCtorEq, hc0, h1.has.len, hu.lenB, hb, show ¬ ((n : Int) < 0) from by omega, show ¬ ((D.first.length : Int) ≤ n) from by omega, show ((512 : Nat) : Int) = 512 from rfl, decide_false, decide_true]
  refine call0 (bytesClone_spec u _ w hu (by omega)) ?_
  rintro v w1 ⟨hv, hg⟩
  have hvc := (Has.own hv).isCell
  simp (maxSteps := 600000) (disch := omega) only [↓sy1, sy2, sy3, readOK, sy5, sy6, Nat.reduceEqDiff, ↓reduceIte, sy7, sy8, sy9, sya, oneOf, syb, syc, Nat.reduceAdd, Nat.reduceMul, syd, sye, syf, syg, syh, reduceCtorEq, fill_gen, fillF_2 (show isCell (.int .i64 n) = true from rfl) hvc]
  have hx : Ext (fun _ => False) G w (G.upto w.heap.size (fun _ => 0) (fun _ => maxLen)) w1 := .upto hg _ _
  have hvf : HasFB (G.upto w.heap.size (fun _ => 0) (fun _ => maxLen)) w1 v b := by
    refine ⟨Has.own hv, fun bb o l c hvv _ => ?_⟩
    obtain ⟨hl2, ⟨h, _⟩ | ⟨g, cap, cur, h, hB, _, hcc, hm, _⟩⟩ := hv
    · rw [h] at hvv; cases hvv
    · rw [h] at hvv; cases hvv
      simp [Gh.upto, Nat.not_lt.2 hB]; rw [bs_length]; omega
  refine call0 (doWrite_spec (h.ext hx id) hn hb hvf hl) ?_
  rintro v2 w2 ⟨G2, hd, hx2⟩
  simp (maxSteps := 600000) (disch := omega) only [↓sy1, sy2, sy3, readOK, sy5, sy6, Nat.reduceEqDiff, ↓reduceIte, sy7, sy8, sy9, sya, oneOf, syb, syc, Nat.reduceAdd, Nat.reduceMul, syd, sye, syf, syg, syh, reduceCtorEq]
  exact R_out ⟨G2, hd, (hx.mono (fun _ h => h.elim)).trans hx2⟩
theorem flush_spec {G : Gh} {κ : Nat} {w : World} {p : Nat} {D : Dsk} (h : DiskAt G κ w p D) (hl : D.ops.length < 1000000) :
    Calls Tryz.prog 50 #[.pointer (some ⟨p, 0, none⟩)] w (Ret fun v w' => v = .int .i64 0 ∧ ∃ G', DiskAt G' κ w' p (D.add .fl) ∧ Ext (fun c => c = κ) G w G' w') := by
  apply enter50
  apply R_in
  simp (maxSteps := 600000) (disch := omega) only [F50, ↓sy1, sy2, sy3, readOK, sy5, sy6, Nat.reduceEqDiff, ↓reduceIte, sy7, sy8, sy9, sya, oneOf, syb, syc, Nat.reduceAdd, Nat.reduceMul, syd, sye, syf, syg, syh, reduceCtorEq]
  refine call0 (doFlush_spec h hl) ?_
  rintro v2 w2 ⟨G2, hd, hx2⟩
  simp (maxSteps := 600000) (disch := omega) only [↓sy1, sy2, sy3, readOK, sy5, sy6, Nat.reduceEqDiff, ↓reduceIte, sy7, sy8, sy9, sya, oneOf, syb, syc, Nat.reduceAdd, Nat.reduceMul, syd, sye, syf, syg, syh, reduceCtorEq]
  exact R_out ⟨G2, hd, hx2⟩
end Go.Proofs.YtienelpepioggaaGreat

/-
  DERIVED: THE SHELF's CONTRACTS AT THIS DUMP, IN PLAIN WORDS (tools/lay-plain.mjs out of 'TryzShelf.lean', which tools/lay-shelf.mjs wrote): THE SAME DECLARATIONS UNDER THE SAME NAMES: 'import', 'namespace', 'open', 'def', 'theorem' AND NOTHING ELSE: no command of the shelf's: FOR A HAND-IN. Each laying: the table of numbers ('.._ren') and one theorem, a field a fact of the dump's own or the kernel's comparison; each contract: ONE APPLICATION.
-/
namespace Go.Proofs
open Go.Shelf
def Tryz.lays189_ren : Go.Shelf.Ren := ⟨fun | 189 => 84 | 125 => 93 | 257 => 92 | 128 => 103 | 129 => 104 | 294 => 94 | 295 => 95 | 296 => 96 | 297 => 97 | 298 => 98 | 299 => 99 | 216 => 100 | 300 => 101 | 301 => 102 | 328 => 105 | 329 => 106 | 330 => 107 | 331 => 108 | 332 => 109 | 215 => 110 | 343 => 111 | n => n, fun | 28 => 42 | 3 => 3 | 46 => 139 | 0 => 0 | 51 => 164 | 53 => 166 | 4 => 4 | 183 => 157 | 182 => 156 | 131 => 161 | 5 => 5 | 9 => 9 | 218 => 167 | 222 => 100 | 228 => 172 | 229 => 40 | n => n, fun | n => n⟩
theorem Tryz.lays189 : Go.Proofs.Lays.n189 Tryz.prog Tryz.lays189_ren := {
  mixed := by kernel_rfl
  f125 := Tryz.func93.trans (congrArg some (by kernel_rfl))
  f128 := Tryz.func103.trans (congrArg some (by kernel_rfl))
  f129 := Tryz.func104.trans (congrArg some (by kernel_rfl))
  f189 := Tryz.func84.trans (congrArg some (by kernel_rfl))
  f215 := Tryz.func110.trans (congrArg some (by kernel_rfl))
  f216 := Tryz.func100.trans (congrArg some (by kernel_rfl))
  f257 := Tryz.func92.trans (congrArg some (by kernel_rfl))
  f294 := Tryz.func94.trans (congrArg some (by kernel_rfl))
  f295 := Tryz.func95.trans (congrArg some (by kernel_rfl))
  f296 := Tryz.func96.trans (congrArg some (by kernel_rfl))
  f297 := Tryz.func97.trans (congrArg some (by kernel_rfl))
  f298 := Tryz.func98.trans (congrArg some (by kernel_rfl))
  f299 := Tryz.func99.trans (congrArg some (by kernel_rfl))
  f300 := Tryz.func101.trans (congrArg some (by kernel_rfl))
  f301 := Tryz.func102.trans (congrArg some (by kernel_rfl))
  f328 := Tryz.func105.trans (congrArg some (by kernel_rfl))
  f329 := Tryz.func106.trans (congrArg some (by kernel_rfl))
  f330 := Tryz.func107.trans (congrArg some (by kernel_rfl))
  f331 := Tryz.func108.trans (congrArg some (by kernel_rfl))
  f332 := Tryz.func109.trans (congrArg some (by kernel_rfl))
  f343 := Tryz.func111.trans (congrArg some (by kernel_rfl))
  t0 := Tryz.underlying0
  a0 := Tryz.isAgg0
  z0 := Tryz.sizeOf0
  v0 := Tryz.zeroValue0
  t3 := Tryz.underlying3
  a3 := Tryz.isAgg3
  z3 := Tryz.sizeOf3
  v3 := Tryz.zeroValue3
  t4 := Tryz.underlying4
  a4 := Tryz.isAgg4
  z4 := Tryz.sizeOf4
  v4 := Tryz.zeroValue4
  t5 := Tryz.underlying5
  a5 := Tryz.isAgg5
  z5 := Tryz.sizeOf5
  v5 := Tryz.zeroValue5
  t9 := Tryz.underlying9
  a9 := Tryz.isAgg9
  z9 := Tryz.sizeOf9
  v9 := Tryz.zeroValue9
  t28 := Tryz.underlying42
  a28 := Tryz.isAgg42
  z28 := Tryz.sizeOf42
  v28 := Tryz.zeroValue42
  t46 := Tryz.underlying139
  a46 := Tryz.isAgg139
  z46 := Tryz.sizeOf139
  v46 := Tryz.zeroValue139
  t51 := Tryz.underlying164
  a51 := Tryz.isAgg164
  z51 := Tryz.sizeOf164
  v51 := Tryz.zeroValue164
  t53 := Tryz.underlying166
  a53 := Tryz.isAgg166
  z53 := Tryz.sizeOf166
  v53 := Tryz.zeroValue166
  t131 := Tryz.underlying161
  a131 := Tryz.isAgg161
  z131 := Tryz.sizeOf161
  v131 := Tryz.zeroValue161
  t182 := Tryz.underlying156
  a182 := Tryz.isAgg156
  z182 := Tryz.sizeOf156
  v182 := Tryz.zeroValue156
  t183 := Tryz.underlying157
  a183 := Tryz.isAgg157
  z183 := Tryz.sizeOf157
  v183 := Tryz.zeroValue157
  t218 := Tryz.underlying167
  a218 := Tryz.isAgg167
  z218 := Tryz.sizeOf167
  v218 := Tryz.zeroValue167
  t222 := Tryz.underlying100
  a222 := Tryz.isAgg100
  z222 := Tryz.sizeOf100
  v222 := Tryz.zeroValue100
  t228 := Tryz.underlying172
  a228 := Tryz.isAgg172
  z228 := Tryz.sizeOf172
  v228 := Tryz.zeroValue172
  t229 := Tryz.underlying40
  a229 := Tryz.isAgg40
  z229 := Tryz.sizeOf40
  v229 := Tryz.zeroValue40 }
open Go.Sort Go.RowKit in
theorem Tryz.slices_Sort_int (blk off cap : Nat) (zs : List Int) (w : World) (hH : Holds (Value.int .i64) w blk off zs.toArray) (hblk : blk < w.heap.size) (hsz : zs.length < 4611686018427387904) :
    Calls Tryz.prog 84 #[.slice (some ⟨blk, off, none⟩) zs.length cap] w fun e w' =>
      e = .returned (.tuple #[]) ∧ ∃ n os, w' = grow (putRow (Value.int .i64) (Sort.ahead w n) blk off (zs.mergeSort fun x y => decide (x ≤ y)).toArray) os := Any.slices_Sort_int Tryz.lays189 blk off cap zs w hH hblk hsz
open Go.RowKit Go.Sort in
/-- .. and plain. (LAID: no walk: one application.) -/
theorem Tryz.slices_Sort_int_none (p : Option Addr) (cap : Nat) (w : World) :
    Calls Tryz.prog 84 #[.slice p 0 cap] w fun e w' => e = .returned (.tuple #[]) ∧ w' = w := Any.slices_Sort_int_none Tryz.lays189 p cap w
end Go.Proofs

/- slices.Sort on a row of the call's own. -/
namespace Go.Proofs.YtienelpepioggaaGreat
open Go
set_option linter.unusedSimpArgs false
open Go.RowKit (intOf)
abbrev sortI (zs : List Int) : List Int := zs.mergeSort fun x y => decide (x ≤ y)
/-- Ints that are the same set, without doubles: sorted they are the rising list. -/
theorem sortI_eq {zs ys : List Int} (h1 : zs.Nodup) (h2 : ys.Pairwise (· < ·)) (h : ∀ a, a ∈ zs ↔ a ∈ ys) : sortI zs = ys := by
  have hnd : ys.Nodup := h2.imp (fun hlt he => by omega)
  have hp : zs.Perm ys := (List.perm_ext_iff_of_nodup h1 hnd).2 h
  refine List.Perm.eq_of_pairwise (le := fun a b : Int => decide (a ≤ b) = true) ?_ ?_ ?_ ((List.mergeSort_perm zs _).trans hp)
  · intro a b _ _ h1 h2; simp at h1 h2; omega
  · exact List.pairwise_mergeSort (fun a b c h1 h2 => by simp at h1 h2 ⊢; omega) (fun a b => by simp; omega) zs
  · exact h2.imp (fun hlt => by simp; omega)
end Go.Proofs.YtienelpepioggaaGreat

/-
  DERIVED: THE SHELF's CONTRACTS AT THIS DUMP, IN PLAIN WORDS (tools/lay-plain.mjs out of 'TryShelf.lean', which tools/lay-shelf.mjs wrote): THE SAME DECLARATIONS UNDER THE SAME NAMES: 'import', 'namespace', 'open', 'def', 'theorem' AND NOTHING ELSE: no command of the shelf's: FOR A HAND-IN. Each laying: the table of numbers ('.._ren') and one theorem, a field a fact of the dump's own or the kernel's comparison; each contract: ONE APPLICATION.
-/
namespace Go.Proofs
open Go.Shelf
def Tryz.keysA_ren : Go.Shelf.Ren := ⟨fun | 7 => 60 | 10 => 85 | n => n, fun | 23 => 64 | 26 => 3 | 3 => 46 | 28 => 124 | 0 => 0 | 27 => 123 | 33 => 84 | 4 => 4 | n => n, fun | n => n⟩
theorem Tryz.keysA : Go.Proofs.SlLaysZI.n7 Tryz.prog Tryz.keysA_ren := {
  mixed := by kernel_rfl
  f7 := ⟨Tryz.f60.name, by decide, Tryz.func60.trans (congrArg some (by kernel_rfl))⟩
  f10 := ⟨Tryz.f85.name, by decide, Tryz.func85.trans (congrArg some (by kernel_rfl))⟩
  t0 := Tryz.underlying0
  a0 := Tryz.isAgg0
  z0 := Tryz.sizeOf0
  v0 := Tryz.zeroValue0
  t4 := Tryz.underlying4
  a4 := Tryz.isAgg4
  z4 := Tryz.sizeOf4
  v4 := Tryz.zeroValue4
  t23 := Tryz.underlying64
  a23 := Tryz.isAgg64
  z23 := Tryz.sizeOf64
  v23 := Tryz.zeroValue64
  t26 := Tryz.underlying3
  a26 := Tryz.isAgg3
  z26 := Tryz.sizeOf3
  v26 := Tryz.zeroValue3
  t27 := Tryz.underlying123
  a27 := Tryz.isAgg123
  z27 := Tryz.sizeOf123
  v27 := Tryz.zeroValue123
  t28 := Tryz.underlying124
  a28 := Tryz.isAgg124
  z28 := Tryz.sizeOf124
  v28 := Tryz.zeroValue124
  t33 := Tryz.underlying84
  a33 := Tryz.isAgg84
  z33 := Tryz.sizeOf84
  v33 := Tryz.zeroValue84 }
def Tryz.sortedA_ren : Go.Shelf.Ren := ⟨fun | 6 => 59 | 8 => 83 | 9 => 84 | 11 => 91 | 13 => 93 | 12 => 92 | 23 => 103 | 24 => 104 | 14 => 94 | 15 => 95 | 16 => 96 | 17 => 97 | 18 => 98 | 19 => 99 | 20 => 100 | 21 => 101 | 22 => 102 | 25 => 105 | 26 => 106 | 27 => 107 | 28 => 108 | 29 => 109 | 30 => 110 | 31 => 111 | n => n, fun | 26 => 3 | 28 => 124 | 24 => 42 | 0 => 0 | 3 => 3 | 37 => 139 | 48 => 164 | 50 => 166 | 4 => 4 | 40 => 157 | 39 => 156 | 45 => 161 | 5 => 5 | 9 => 9 | 51 => 167 | 55 => 100 | 57 => 172 | 58 => 40 | 33 => 84 | n => n, fun | n => n⟩
theorem Tryz.sortedA : Go.Proofs.SlLaysZI.n6 Tryz.prog Tryz.sortedA_ren := {
  mixed := by kernel_rfl
  f6 := ⟨Tryz.f59.name, by decide, Tryz.func59.trans (congrArg some (by kernel_rfl))⟩
  f8 := ⟨Tryz.f83.name, by decide, Tryz.func83.trans (congrArg some (by kernel_rfl))⟩
  f11 := ⟨Tryz.f91.name, by decide, Tryz.func91.trans (congrArg some (by kernel_rfl))⟩
  t0 := Tryz.underlying0
  a0 := Tryz.isAgg0
  z0 := Tryz.sizeOf0
  v0 := Tryz.zeroValue0
  t24 := Tryz.underlying42
  a24 := Tryz.isAgg42
  z24 := Tryz.sizeOf42
  v24 := Tryz.zeroValue42
  t26 := Tryz.underlying3
  a26 := Tryz.isAgg3
  z26 := Tryz.sizeOf3
  v26 := Tryz.zeroValue3
  t28 := Tryz.underlying124
  a28 := Tryz.isAgg124
  z28 := Tryz.sizeOf124
  v28 := Tryz.zeroValue124
  i26 := by kernel_rfl }
end Go.Proofs

/- The keys of a map, sorted. -/
namespace Go.Proofs.YtienelpepioggaaGreat
open Go Go.Shelf Go.WideElems
set_option linter.unusedSimpArgs false
theorem toGrowB {w w' : World} (h : Go.RowKit.Below w.heap.size w w') : Grow w w' := ⟨h.os, h.tape, h.output, h.size, fun b hb _ => h.block b hb⟩
theorem sortsA (m : Nat) : AnyZI.SortsIn Tryz.prog Tryz.sortedA_ren Fence.wide m :=
  ⟨fun blk off cap ss W hH hblk hsz => callsIn_wide.2 (Tryz.slices_Sort_int blk off cap ss W hH hblk hsz),
   fun p cap W => callsIn_wide.2 (Tryz.slices_Sort_int_none p cap W)⟩
/-- How an entry's value reads: as nothing. -/
def asNil : Value → Option (DataW Unit × List MemPlace) := fun _ => some (.nil, [])
theorem rd_int {y : MapEntry} {a : Int} (hk : y.key = .int .i64 a) (h0 : 0 ≤ a) (h1 : a < 1099511627776) : rd Tryz.prog 3 asNil y = some (.int .i64 a, .nil) := by
  have hu : Tryz.prog.underlying 3 = some (.int .i64) := by kernel_rfl
  have hw : (Lit.int .i64 a).wf = true := by
    have e1 : IntKind.i64.min = -9223372036854775808 := by decide
    have e2 : IntKind.i64.max = 9223372036854775807 := by decide
    simp [Lit.wf, e1, e2]; omega
  have hkey : keyOf Tryz.prog 3 y.key = some (.int .i64 a) := by simp [keyOf, hu, mapKey, hk, hw]
  simp [rd, hkey, asNil]
theorem keys_read : ∀ {l : List MapEntry} {ks : List Int}, l.map (·.key) = ints ks → (∀ a ∈ ks, 0 ≤ a ∧ a < 1099511627776) → (l.map (rg Tryz.prog 3 asNil)).map (fun p => Go.intOf p.1) = ks
  | [], [], _, _ => rfl
  | [], _ :: _, h, _ => by simp [ints] at h
  | _ :: _, [], h, _ => by simp [ints] at h
  | y :: l, a :: ks, h, hr => by
    simp only [List.map_cons, ints, List.cons.injEq] at h
    have hrg : rg Tryz.prog 3 asNil y = (.int .i64 a, .nil) := rg_of (rd_int h.1 (hr a (by simp)).1 (hr a (by simp)).2)
    rw [List.map_cons, List.map_cons, hrg]
    show a :: _ = _
    rw [keys_read (l := l) (ks := ks) (by simpa [ints] using h.2) (fun b hb => hr b (by simp [hb]))]
theorem keys_spec {w : World} {m : Nat} : Calls Tryz.prog 60 #[.map (some m)] w (Ret fun v w' => v = .func (.func 85) #[] #[.pointer (some ⟨w.heap.size, 0, none⟩)] ∧ w' = w.alloc (.cells #[.map (some m)] 64)) := by
  refine (callsIn_wide (n := 5)).1 ?_
  refine (AnyZI.keys_in Tryz.keysA Fence.wide 5 trivial rfl (some m) w).mono ?_
  rintro e w' ⟨rfl, rfl⟩
  exact ⟨rfl, rfl⟩
theorem sorted_spec {w : World} {B m clk : Nat} {es : Array MapEntry} {ks : List Int} (hB : w.cell? ⟨B, 0, none⟩ = some (.map (some m))) (hm : w.heap[m]? = some (.map es clk)) (hok : MapOk es.toList clk)
    (hk : es.toList.map (·.key) = ints ks) (hr : ∀ a ∈ ks, 0 ≤ a ∧ a < 1099511627776) (hl : ks.length ≤ 1000000) :
    Calls Tryz.prog 59 #[.func (.func 85) #[] #[.pointer (some ⟨B, 0, none⟩)]] w (Ret fun v w' => w'.ownsRow w.heap.size 3 1 v ks.length (ints (sortI ks)) ∧ Grow w w') := by
  have hlen : es.size = ks.length := by have := congrArg List.length hk; simpa [ints] using this
  have hbl : B < w.heap.size := World.block_lt_of_cell? w _ hB
  have hfit : Fit Tryz.prog 3 asNil es clk := by
    refine ⟨by unfold maxLen; omega, ⟨hok.clk, ?_, ?_⟩, fun x hx => ?_⟩
    · unfold List.Nodup; rw [List.pairwise_map]; exact hok.born
    · unfold List.Nodup; rw [List.pairwise_map]; exact hok.keys
    · have hx2 : x.key ∈ ints ks := by rw [← hk]; exact List.mem_map.2 ⟨x, hx, rfl⟩
      obtain ⟨a, ha, hxa⟩ := List.mem_map.1 hx2
      exact ⟨_, rd_int hxa.symm (hr a ha).1 (hr a ha).2⟩
  have hown : w.ownsMap Tryz.prog 3 asNil m es.size (.map ((es.toList.map (rg Tryz.prog 3 asNil)).foldr DataW.insert [])) := ⟨es, clk, hm, hfit, Nat.le_refl _, rfl⟩
  have hsize : Maps.size (.map ((es.toList.map (rg Tryz.prog 3 asNil)).foldr DataW.insert []) : DataW Unit) = ks.length := by
    simp only [Maps.size]; rw [(Go.WideShapes.sorted_perm _).length_eq]; simp [hlen]
  have hperm : (Go.intKeys (.map ((es.toList.map (rg Tryz.prog 3 asNil)).foldr DataW.insert []) : DataW Unit)).Perm ks := by
    have h1 := (Go.WideShapes.sorted_perm (es.toList.map (rg Tryz.prog 3 asNil))).map (fun p => Go.intOf p.1)
    rw [keys_read hk hr] at h1
    exact h1
  have hseq : SeqGives Fence.wide 2 Tryz.prog 85 #[.pointer (some ⟨B, 0, none⟩)] encZ (fun ss => ss.Perm (Go.intKeys (.map ((es.toList.map (rg Tryz.prog 3 asNil)).foldr DataW.insert []) : DataW Unit))) (Maps.size (.map ((es.toList.map (rg Tryz.prog 3 asNil)).foldr DataW.insert []) : DataW Unit)) w :=
    AnyZI.keys_gives (ρ := Tryz.keysA_ren) { Tryz.keysA with } Fence.wide 2 trivial rfl (by omega) B m es.size _ w hbl hB hown
  have cS := AnyZI.sorted_in Tryz.sortedA Fence.wide 5 trivial trivial trivial trivial rfl (by omega) (sortsA _) (fun args w => run_callFunc (by kernel_rfl)) 85 #[.pointer (some ⟨B, 0, none⟩)] trivial (fun args w => run_callFunc (by kernel_rfl)) _ _ (by rw [hsize]; unfold maxLen; omega) (by rw [hsize]; omega) w hseq
  change CallsIn _ _ Tryz.prog 59 _ _ _ at cS
  refine (callsIn_wide (n := 5)).1 (cS.mono ?_)
  rintro e w' ⟨v, ss, rfl, hS, hrow, hnil, hb⟩
  have hp := hS.trans hperm
  have hs : ss.mergeSort (fun x y => decide (x ≤ y)) = sortI ks := mergeSort_of_perm_i hp
  rw [hs, hp.length_eq] at hrow
  exact ⟨hrow, toGrowB hb⟩
end Go.Proofs.YtienelpepioggaaGreat

/- The disk: what waits. -/
namespace Go.Proofs.YtienelpepioggaaGreat
open Go
set_option linter.unusedSimpArgs false
open Go.RowKit (intOf)
/-- Whole numbers as Go's. -/
abbrev zs (l : List Nat) : List Int := l.map fun n : Nat => (n : Int)
end Go.Proofs.YtienelpepioggaaGreat

/- The disk: what a crash leaves. -/
namespace Go.Proofs.YtienelpepioggaaGreat
open Go
set_option linter.unusedSimpArgs false
open Go.RowKit (intOf)
theorem own_fix {B : Nat} {t : TypeId} {w : World} {u : Value} {n : Nat} {xs : List Value} {G : Gh} (ho : w.ownsRow B t 1 u n xs) (hG : ∀ b, B ≤ b → maxLen ≤ G.fix b) : HasF G w u xs := by
  refine ⟨Has.own ho, fun b o l c hv _ => ?_⟩
  obtain ⟨hl, ⟨rfl, _⟩ | ⟨g, cap, cur, rfl, hB, _, hc, hm, _⟩⟩ := ho
  · cases hv
  · cases hv
    have := hG b hB; omega
/-- A choice that a crash takes. -/
def Dsk.may (D : Dsk) (ks : List Int) : Prop := ks.length ≤ D.waiting.length ∧ ∀ i (h : i < ks.length) (h' : i < D.waiting.length), 0 ≤ ks[i] ∧ ks[i] ≤ ((D.wait D.waiting[i]).length : Int)
end Go.Proofs.YtienelpepioggaaGreat

/- Basics: ghosts, structs of four cells, laws of crashes. -/
namespace Go.Proofs.YtienelpepioggaaGreat
open Go
set_option linter.unusedSimpArgs false
open Go.RowKit (intOf)
def G00 : Gh := ⟨fun _ => 0, fun _ => 0⟩
theorem Ext.toGrow {κ : Nat → Prop} {G' : Gh} {w w' : World} (h : Ext κ G00 w G' w') (hk : ¬ κ 0) : Grow w w' := ⟨h.os, h.tape, h.output, h.size, fun b hb _ => h.blk b hb hk⟩
theorem Ext.growG {G G' : Gh} {w w' : World} (h : Ext0 G w G' w') : Grow w w' := ⟨h.os, h.tape, h.output, h.size, fun b hb _ => h.blk b hb id⟩
abbrev Gh.new (G : Gh) (B : Nat) : Gh := G.upto B (fun _ => 0) (fun _ => 0)
theorem Ext.newB {K : Nat → Prop} {G : Gh} {w w' : World} (h : Grow w w') : Ext K G w (G.new w.heap.size) w' := .upto h _ _
theorem Gh.new_own {G : Gh} {B b : Nat} (h : B ≤ b) : (G.new B).own b = 0 := by simp [Gh.upto, Nat.not_lt.2 h]
theorem storeN_one {p i : Nat} {t : TypeId} {w : World} {cs : Array Value} {v : Value} (l : List Value) (h : w.heap[p]? = some (.cells cs t (0, 0))) (hi : i < cs.size) (hv : isCell v = true) :
    ∃ w', storeN w ⟨p, 0, none⟩ i (v :: l) = storeN w' ⟨p, 0, none⟩ (i + 1) l ∧ w'.heap[p]? = some (.cells (cs.setIfInBounds i v) t (0, 0)) ∧ Keep (fun b => b = p) w w' := by
  obtain ⟨w1, hst, hp1, hk1⟩ := cell_store (i := i) h hi hv
  refine ⟨w1, ?_, hp1, hk1⟩
  simp only [stF] at hst
  split at hst
  · rename_i hcond
    have hw : w.setCell ⟨p, i, none⟩ v = w1 := by simpa using hst
    simp only [storeN, add_lit, Nat.zero_add, hcond, if_true, hw]
  · cases hst
theorem FreshR.keep {S : Nat → Prop} {B : Nat} {tr t : TypeId} {w w' : World} {v : Value} {ls : List (List UInt8)} (h : FreshR B tr t w v ls) (hk : Keep S w w') (hs : ∀ b, B ≤ b → ¬ S b) : FreshR B tr t w' v ls := by
  obtain ⟨vs, h1, h2⟩ := h
  exact ⟨vs, own_keep h1 hk (fun b hb => hs b (World.ownsRow.lt h1 b hb).1), h2.keep hk (fun b hS u n xs hu hub => absurd hS (hs b (World.ownsRow.lt hu b hub).1))⟩
theorem Dsk.image_wr (D : Dsk) (n : Nat) (b : List UInt8) : (D.add (.wr n b)).image = D.image.set n b := by
  refine List.ext_getElem (by simp [Dsk.image_length, Dsk.add]) fun i h1 h2 => ?_
  rw [List.getElem_set]
  have hs : (D.add (.wr n b)).safe = D.safe := D.safe_wr n b
  rw [Dsk.image_length] at h1
  have hi : i < D.safe.length := by rw [D.safe_length]; exact h1
  rw [Dsk.image_get _ i _ (by rw [hs]; exact hi)]
  have hw := D.wait_wr n b
  simp only [hs, hw]
  by_cases hin : n = i
  · subst hin; simp [lastOr]
  · rw [if_neg (fun h => hin h.symm), if_neg hin]
    exact (D.image_get i _ hi).symm
theorem nodup_lt {l : List Nat} (h : l.Pairwise (· < ·)) : l.Nodup := h.imp fun h => by omega
theorem Ext.past {K : Nat → Prop} {G G' : Gh} {w w' w'' : World} {v : Option Nat} {μ : Nat} (hx : Ext K G w G' w') (hk : Keep (fun b => some b = v) w' w'') (hv : ∀ b, v = some b → w.heap.size ≤ b) : Ext K G w (G'.upto w'.heap.size (fun _ => μ) (fun _ => 0)) w'' := by
  have hs := hx.size
  have hne : ∀ b, b < w.heap.size → ¬ (some b = v) := fun b hb h => by have := hv b h.symm; omega
  have hu1 : ∀ b, b < w.heap.size → (G'.upto w'.heap.size (fun _ => μ) (fun _ => 0)).own b = G'.own b := fun b hb => by simp [Gh.upto, show b < w'.heap.size by omega]
  have hu2 : ∀ b, b < w.heap.size → (G'.upto w'.heap.size (fun _ => μ) (fun _ => 0)).fix b = G'.fix b := fun b hb => by simp [Gh.upto, show b < w'.heap.size by omega]
  exact ⟨hk.os.trans hx.os, hk.tape.trans hx.tape, hk.output.trans hx.output, Nat.le_trans hs hk.size, fun b hb => (hu1 b hb).trans (hx.own b hb), fun b hb => by rw [hu2 b hb]; exact hx.fix b hb,
    fun b hb hn => (hu2 b hb).trans (hx.fixe b hb hn), fun b hb hn => (hk.blk b (by omega) (hne b hb)).trans (hx.blk b hb hn), fun b i u hb hi hc => hk.cell (hx.pre b i u hb hi hc) (hne b hb)⟩
theorem Ext.app {G : Gh} {w w' : World} {μ : Nat} {v : Option Nat} (hk : Keep (fun b => some b = v) w w') (ho : ∀ b, v = some b → G.own b = μ ∧ G.fix b = 0) : Ext (fun c => c = μ) G w (G.upto w.heap.size (fun _ => μ) (fun _ => 0)) w' := by
  have hne : ∀ b, G.own b ≠ μ → ¬ (some b = v) := fun b h hv => h (ho b hv.symm).1
  refine ⟨hk.os, hk.tape, hk.output, hk.size, fun b hb => by simp [Gh.upto, hb], fun b hb => by simp [Gh.upto, hb], fun b hb _ => by simp [Gh.upto, hb], fun b hb hn => hk.blk b hb (hne b hn), fun b i v' hb hi hc => ?_⟩
  by_cases hv : some b = v
  · have := (ho b hv.symm).2; omega
  · exact hk.cell hc hv
end Go.Proofs.YtienelpepioggaaGreat

/- Maps from numbers to bytes that nobody changes: looked up, put, deleted, cleared, counted. -/
namespace Go.Proofs.YtienelpepioggaaGreat
open Go
set_option linter.unusedSimpArgs false
section rules
variable {P : Program} {k : Kont} {e : Env} {w : World} {l : List GOp} {d : Option Nat}
theorem check_intB {kt : TypeId} {kk kd : IntKind} (hkt : P.underlying kt = some (.int kd)) (b : Bool) (f : Nat) (n : Int) (w0 : World) : (Instr.checkKey b (f + 1) kt (.int kk n)).run P w0 = .ok () w0 := by simp [Instr.checkKey, run_underlying hkt]
theorem del_rule {x y : Operand} {t t2 kt et ty : TypeId} {kk kd : IntKind} {m clk : Nat} {n : Int} {es : Array MapEntry} (hx : ev e x = .map (some m)) (hy : ev e y = .int kk n) (ht : P.underlying t = some (.map kt et)) (hkt : P.underlying kt = some (.int kd))
    (hm : w.heap[m]? = some (.map es clk)) (hki : IntKeyed kk es.toList) (hok : MapOk es.toList clk)
    (h : ∀ w' es', Keep (fun b => b = m) w w' → w'.heap[m]? = some (.map es' clk) → es'.toList.Sublist es.toList → (∀ z, z ∈ es'.toList ↔ z ∈ es.toList ∧ z.key ≠ .int kk n) → R (symOps P l k (updO e d (.tuple #[])) w')) :
    R (symOps P (⟨d, .hard (H (.call { callee := .builtin .delete, args := #[x, y], argTypes := #[t, t2] }) ty), none⟩ :: l) k e w) := by
  rcases findNow_i (kd := kd) (n := n) (i := 0) hki with ⟨h1, h2⟩ | ⟨j, y', h1, h2, h3⟩
  · obtain ⟨w', hs, hk, hm', _⟩ := setObj_run (P := P) (.map es clk) hm (by simp)
    exact hard_rule (run_builtin (vs := [.map (some m), .int kk n]) (by simp [hx, hy]) (fun cs => by simp [builtin, Builtin.delete_, run_underlying ht, MapKept.run_getObj_map hm, check_intB hkt, Instr.findKey, run_underlying hkt, h2, hs]))
      (h w' es hk hm' (List.Sublist.refl _) (fun z => ⟨fun hz => ⟨hz, h1 z hz⟩, fun hz => hz.1⟩))
  · have hj : j < es.size := by have := (List.getElem?_eq_some_iff.1 h1).1; simpa using this
    have hsub : (es.eraseIdxIfInBounds j).toList = es.toList.eraseIdx j := by
      unfold Array.eraseIdxIfInBounds
      rw [dif_pos hj]
      simp
    obtain ⟨w', hs, hk, hm', _⟩ := setObj_run (P := P) (.map (es.eraseIdxIfInBounds j) clk) hm (by simp)
    refine hard_rule (run_builtin (vs := [.map (some m), .int kk n]) (by simp [hx, hy]) (fun cs => by simp [builtin, Builtin.delete_, run_underlying ht, MapKept.run_getObj_map hm, check_intB hkt, Instr.findKey, run_underlying hkt, h3, hs]))
      (h w' _ hk hm' (by rw [hsub]; exact List.eraseIdx_sublist ..) (fun z => ?_))
    rw [hsub, List.mem_eraseIdx_iff_getElem?]
    constructor
    · rintro ⟨i, hij, hi⟩
      refine ⟨List.mem_of_getElem? hi, fun hz => ?_⟩
      obtain ⟨hil, hiz⟩ := List.getElem?_eq_some_iff.1 hi
      obtain ⟨hjl, hjz⟩ := List.getElem?_eq_some_iff.1 h1
      have hp := List.pairwise_iff_getElem.1 hok.keys
      rcases Nat.lt_or_gt_of_ne hij with hlt | hlt
      · exact hp i j hil hjl hlt (by rw [hiz, hjz, hz, h2])
      · exact hp j i hjl hil hlt (by rw [hiz, hjz, hz, h2])
    · rintro ⟨hz, hzk⟩
      obtain ⟨i, hi, hiz⟩ := List.getElem_of_mem hz
      refine ⟨i, fun hij => hzk ?_, by rw [List.getElem?_eq_getElem hi, hiz]⟩
      subst hij
      rw [List.getElem?_eq_getElem hi, hiz] at h1
      rw [Option.some.inj h1, h2]
end rules
theorem key_inj {a b : Nat} (h : Value.int .i64 (a : Int) = .int .i64 (b : Int)) : a = b := by
  have := (Value.int.inj h).2; omega
theorem MapOk.sub {es es' : List MapEntry} {clk : Nat} (h : MapOk es clk) (hs : es'.Sublist es) : MapOk es' clk :=
  ⟨h.keys.sublist hs, h.born.sublist hs, fun e he => h.clk e (hs.subset he)⟩
/-- Bytes that nobody changes, in a block without an owner. -/
def HasZ (G : Gh) (w : World) (v : Value) (l : List UInt8) : Prop := HasFB G w v l ∧ ∀ b, v.ownBlock = some b → bs l ≠ [] → b < w.heap.size ∧ G.own b = 0
theorem HasZ.ext {K : Nat → Prop} {G G' : Gh} {w w' : World} {v : Value} {l : List UInt8} (h : HasZ G w v l) (hx : Ext K G w G' w') : HasZ G' w' v l :=
  ⟨h.1.ext hx, fun b hb hne => by
    obtain ⟨h1, h2⟩ := h.2 b hb hne
    exact ⟨Nat.lt_of_lt_of_le h1 hx.size, by rw [hx.own b h1]; exact h2⟩⟩
/-- The entries of a map are those of q. -/
def MapQ (G : Gh) (w : World) (es : List MapEntry) (q : Nat → Option (List UInt8)) : Prop :=
  (∀ e ∈ es, ∃ (n : Nat) (b : List UInt8), e.key = .int .i64 n ∧ q n = some b ∧ HasZ G w e.val b) ∧ ∀ n b, q n = some b → ∃ e ∈ es, e.key = .int .i64 (n : Nat)
/-- A map in memory, of owner κ. -/
def BMap (G : Gh) (κ : Nat) (w : World) (m : Nat) (q : Nat → Option (List UInt8)) : Prop :=
  ∃ es clk, w.heap[m]? = some (.map es clk) ∧ G.own m = κ ∧ G.fix m = 0 ∧ MapOk es.toList clk ∧ MapQ G w es.toList q
section
variable {G G' : Gh} {κ m : Nat} {w w' : World} {q : Nat → Option (List UInt8)}
theorem MapQ.ext {K : Nat → Prop} {es : List MapEntry} (h : MapQ G w es q) (hx : Ext K G w G' w') : MapQ G' w' es q :=
  ⟨fun e he => let ⟨n, b, h1, h2, h3⟩ := h.1 e he; ⟨n, b, h1, h2, h3.ext hx⟩, h.2⟩
theorem MapQ.keyed {es : List MapEntry} (h : MapQ G w es q) : IntKeyed .i64 es := fun e he => let ⟨n, _, h1, _⟩ := h.1 e he; ⟨n, h1⟩
theorem BMap.ext {K : Nat → Prop} (h : BMap G κ w m q) (hx : Ext K G w G' w') (hk : ¬ K κ) : BMap G' κ w' m q := by
  obtain ⟨es, clk, h1, h2, h3, h4, h5⟩ := h
  have hlt := hx.lt h1
  exact ⟨es, clk, hx.heap h1 (by rw [h2]; exact hk), by rw [hx.own m hlt]; exact h2, by rw [hx.fixe m hlt (by rw [h2]; exact hk)]; exact h3, h4, h5.ext hx⟩
theorem BMap.grow (h : BMap G κ w m q) (hg : Grow w w') : BMap G κ w' m q := h.ext (K := fun _ => False) (.grow hg) id
theorem BMap.lt (h : BMap G κ w m q) : m < w.heap.size := by
  obtain ⟨es, clk, h1, _⟩ := h; exact (Array.getElem?_eq_some_iff.1 h1).1
/-- What is looked up. -/
theorem BMap.find (h : BMap G κ w m q) (n : Nat) : (q n = none ∧ ∀ z, lkpV w z false (.map (some m)) (.int .i64 n) = some z ∧ lkpV w z true (.map (some m)) (.int .i64 n) = some (.tuple #[z, .bool false])) ∨
    ∃ b v, q n = some b ∧ HasZ G w v b ∧ ∀ z, lkpV w z false (.map (some m)) (.int .i64 n) = some v ∧ lkpV w z true (.map (some m)) (.int .i64 n) = some (.tuple #[v, .bool true]) := by
  obtain ⟨es, clk, h1, h2, h3, h4, h5⟩ := h
  have hik := intKeyed_ok h5.keyed
  cases hq : q n with
  | none =>
    left
    have hf := findInt_none (n := (n : Int)) h5.keyed (fun y hy hk => by
      obtain ⟨n', b, k1, k2, _⟩ := h5.1 y hy
      rw [k1] at hk; have hk := key_inj hk; subst hk; rw [hq] at k2; cases k2)
    exact ⟨rfl, fun z => by simp [lkpV, h1, hik, hf]⟩
  | some b =>
    right
    obtain ⟨e, he, hk⟩ := h5.2 n b hq
    obtain ⟨n', b', k1, k2, k3⟩ := h5.1 e he
    rw [hk] at k1; have k1 := key_inj k1; subst k1
    rw [hq] at k2; cases k2
    have hf := findInt_eq h5.keyed h4.keys he hk
    exact ⟨b, e.val, rfl, k3, fun z => by simp [lkpV, h1, hik, hf]⟩
def qput (q : Nat → Option (List UInt8)) (n : Nat) (b : List UInt8) : Nat → Option (List UInt8) := fun i => if i = n then some b else q i
def qdel (q : Nat → Option (List UInt8)) (n : Nat) : Nat → Option (List UInt8) := fun i => if i = n then none else q i
theorem BMap.del {k : Kont} {e : Env} {l : List GOp} {d : Option Nat} {P : Program} {x y : Operand} {t t2 kt et ty : TypeId} {kd : IntKind} {n : Nat} (h : BMap G κ w m q) (hx : ev e x = .map (some m)) (hy : ev e y = .int .i64 n) (ht : P.underlying t = some (.map kt et)) (hkt : P.underlying kt = some (.int kd))
    (hh : ∀ w', Ext (fun c => c = κ) G w G w' → Keep (fun b => b = m) w w' → BMap G κ w' m (qdel q n) → R (symOps P l k (updO e d (.tuple #[])) w')) :
    R (symOps P (⟨d, .hard (H (.call { callee := .builtin .delete, args := #[x, y], argTypes := #[t, t2] }) ty), none⟩ :: l) k e w) := by
  obtain ⟨es, clk, h1, h2, h3, h4, h5⟩ := h
  refine del_rule hx hy ht hkt h1 h5.keyed h4 (fun w' es' hk hm' hs hmem => ?_)
  have hxx : Ext (fun c => c = κ) G w G w' := .on0 hk h2 h3
  refine hh w' hxx hk ⟨es', clk, hm', h2, h3, h4.sub hs, fun z hz => ?_, fun i b hb => ?_⟩
  · obtain ⟨hz1, hz2⟩ := (hmem z).1 hz
    obtain ⟨i, b, k1, k2, k3⟩ := h5.1 z hz1
    refine ⟨i, b, k1, ?_, k3.ext hxx⟩
    unfold qdel
    rw [if_neg (fun hin => hz2 (by rw [k1, hin]))]; exact k2
  · unfold qdel at hb
    split at hb
    · cases hb
    · rename_i hin
      obtain ⟨z, hz, hzk⟩ := h5.2 i b hb
      refine ⟨z, (hmem z).2 ⟨hz, fun hc => hin ?_⟩, hzk⟩
      rw [hzk] at hc; exact key_inj hc
theorem BMap.put {k : Kont} {e : Env} {l : List GOp} {d : Option Nat} {P : Program} {xm xk xv : Operand} {t kt et ty : TypeId} {kd : IntKind} {n : Nat} {v : Value} {b : List UInt8} (h : BMap G κ w m q) (hxm : ev e xm = .map (some m)) (hxk : ev e xk = .int .i64 n) (hxv : ev e xv = v) (hv : HasZ G w v b)
    (ht : P.underlying t = some (.map kt et)) (hkt : P.underlying kt = some (.int kd))
    (hh : ∀ w', Ext (fun c => c = κ) G w G w' → Keep (fun b => b = m) w w' → BMap G κ w' m (qput q n b) → R (symOps P l k (updO e d undef) w')) :
    R (symOps P (⟨d, .hard (H (.mapUpdate t xm xk xv) ty), none⟩ :: l) k e w) := by
  obtain ⟨es, clk, h1, h2, h3, h4, h5⟩ := h
  refine put_rule hxm hxk hxv ht hkt h1 h5.keyed (fun hno w' hk hm' => ?_) (fun j y hj hyk w' hk hm' => ?_)
  · have hxx : Ext (fun c => c = κ) G w G w' := .on0 hk h2 h3
    have hl : (es.push ⟨.int .i64 n, v, clk⟩).toList = es.toList ++ [⟨.int .i64 n, v, clk⟩] := by simp
    refine hh w' hxx hk ⟨_, clk + 1, hm', h2, h3, ?_, ?_, fun i b' hb => ?_⟩
    · rw [hl]
      refine ⟨?_, ?_, fun z hz => ?_⟩
      · rw [List.pairwise_append]
        exact ⟨h4.keys, by simp, fun a ha c hc => by simp at hc; subst hc; exact hno a ha⟩
      · rw [List.pairwise_append]
        exact ⟨h4.born, by simp, fun a ha c hc => by simp at hc; subst hc; have := h4.clk a ha; simp only; omega⟩
      · rcases List.mem_append.1 hz with hz | hz
        · have := h4.clk z hz; omega
        · simp at hz; subst hz; simp
    · rw [hl]
      intro z hz
      rcases List.mem_append.1 hz with hz | hz
      · obtain ⟨i, b', k1, k2, k3⟩ := h5.1 z hz
        refine ⟨i, b', k1, ?_, k3.ext hxx⟩
        unfold qput
        rw [if_neg (fun hin => hno z hz (by rw [k1, hin]))]; exact k2
      · simp at hz; subst hz
        exact ⟨n, b, rfl, by simp [qput], hv.ext hxx⟩
    · rw [hl]
      unfold qput at hb
      split at hb
      · rename_i hin; subst hin; exact ⟨_, List.mem_append_right _ (List.mem_singleton.2 rfl), rfl⟩
      · obtain ⟨z, hz, hzk⟩ := h5.2 i b' hb
        exact ⟨z, List.mem_append_left _ hz, hzk⟩
  · have hxx : Ext (fun c => c = κ) G w G w' := .on0 hk h2 h3
    obtain ⟨hjl, hjy⟩ := List.getElem?_eq_some_iff.1 hj
    have hl : (es.setIfInBounds j { y with val := v }).toList = es.toList.set j { y with val := v } := by simp
    have hset : ∀ z, z ∈ es.toList.set j { y with val := v } → z = { y with val := v } ∨ (z ∈ es.toList ∧ z.key ≠ y.key) := fun z hz => by
      obtain ⟨i, hi, hiz⟩ := List.getElem_of_mem hz
      rw [List.getElem_set] at hiz
      split at hiz
      · exact .inl hiz.symm
      · rename_i hne
        rw [List.length_set] at hi
        right
        refine ⟨hiz ▸ List.getElem_mem hi, fun hc => ?_⟩
        have hp := List.pairwise_iff_getElem.1 h4.keys
        rcases Nat.lt_or_gt_of_ne hne with hlt | hlt
        · exact hp j i hjl hi hlt (by rw [hjy, hiz, hc])
        · exact hp i j hi hjl hlt (by rw [hjy, hiz, hc])
    refine hh w' hxx hk ⟨_, clk, hm', h2, h3, ?_, ?_, fun i b' hb => ?_⟩
    · rw [hl]
      have hmap : ∀ {β : Type} (f : MapEntry → β), f { y with val := v } = f y → (es.toList.set j { y with val := v }).map f = es.toList.map f := fun f hf => by
        rw [List.map_set, hf, ← hjy, ← List.getElem_map (f := f) (h := by simpa using hjl)]
        exact List.set_getElem_self _
      refine ⟨?_, ?_, fun z hz => ?_⟩
      · have h6 := h4.keys
        rw [← List.pairwise_map (f := fun e : MapEntry => e.key) (R := fun a b => a ≠ b)] at h6 ⊢
        rw [hmap _ rfl]; exact h6
      · have h6 := h4.born
        rw [← List.pairwise_map (f := fun e : MapEntry => e.born) (R := fun a b => a ≠ b)] at h6 ⊢
        rw [hmap _ rfl]; exact h6
      · rcases hset z hz with rfl | ⟨hz, _⟩
        · exact h4.clk y (List.mem_of_getElem? hj)
        · exact h4.clk z hz
    · rw [hl]
      intro z hz
      rcases hset z hz with rfl | ⟨hz, hzk⟩
      · exact ⟨n, b, hyk, by simp [qput], hv.ext hxx⟩
      · obtain ⟨i, b', k1, k2, k3⟩ := h5.1 z hz
        refine ⟨i, b', k1, ?_, k3.ext hxx⟩
        unfold qput
        rw [if_neg (fun hin => hzk (by rw [k1, hyk, hin]))]; exact k2
    · rw [hl]
      unfold qput at hb
      split at hb
      · rename_i hin
        subst hin
        exact ⟨_, List.mem_iff_getElem.2 ⟨j, by simpa using hjl, List.getElem_set_self _⟩, hyk⟩
      · rename_i hin
        obtain ⟨z, hz, hzk⟩ := h5.2 i b' hb
        obtain ⟨i2, hi2, hiz⟩ := List.getElem_of_mem hz
        have hne : j ≠ i2 := fun hc => by
          subst hc
          rw [hiz] at hjy; subst hjy
          rw [hzk] at hyk; exact hin (key_inj hyk)
        exact ⟨z, List.mem_iff_getElem.2 ⟨i2, by simpa using hi2, by rw [List.getElem_set_ne hne]; exact hiz⟩, hzk⟩
theorem BMap.clear {k : Kont} {e : Env} {l : List GOp} {d : Option Nat} {P : Program} {x : Operand} {t kt et ty : TypeId} (h : BMap G κ w m q) (hx : ev e x = .map (some m)) (ht : P.underlying t = some (.map kt et))
    (hh : ∀ w', Ext (fun c => c = κ) G w G w' → Keep (fun b => b = m) w w' → BMap G κ w' m (fun _ => none) → R (symOps P l k (updO e d (.tuple #[])) w')) :
    R (symOps P (⟨d, .hard (H (.call { callee := .builtin .clear, args := #[x], argTypes := #[t] }) ty), none⟩ :: l) k e w) := by
  obtain ⟨es, clk, h1, h2, h3, h4, h5⟩ := h
  refine clear_rule hx ht h1 (fun w' hk hm' => ?_)
  exact hh w' (.on0 hk h2 h3) hk ⟨#[], clk, hm', h2, h3, ⟨by simp, by simp, by simp⟩, by simp, by simp⟩
theorem BMap.new {clk : Nat} (hm : w.heap[m]? = some (.map #[] clk)) (ho : G.own m = κ) (hf : G.fix m = 0) : BMap G κ w m (fun _ => none) :=
  ⟨#[], clk, hm, ho, hf, ⟨by simp, by simp, by simp⟩, by simp, by simp⟩
/-- The numbers of q below N, rising. -/
def keysQ (N : Nat) (q : Nat → Option (List UInt8)) : List Nat := (List.range N).filter fun n => (q n).isSome
theorem keysQ_rise (N : Nat) (q : Nat → Option (List UInt8)) : (keysQ N q).Pairwise (· < ·) := List.Pairwise.filter _ List.pairwise_lt_range
theorem mem_keysQ {N n : Nat} {q : Nat → Option (List UInt8)} : n ∈ keysQ N q ↔ n < N ∧ ∃ b, q n = some b := by
  simp [keysQ, Option.isSome_iff_exists]
theorem keysQ_none (N : Nat) : keysQ N (fun _ => none) = [] := by simp [keysQ]
/-- The keys, in the map's own order. -/
theorem MapQ.keys {es : List MapEntry} {clk N : Nat} (h : MapQ G w es q) (hok : MapOk es clk) (hN : ∀ n b, q n = some b → n < N) : ∃ ks : List Nat, es.map (·.key) = ints (zs ks) ∧ ks.Perm (keysQ N q) := by
  have h1 : ∃ ks : List Nat, es.map (·.key) = ints (zs ks) := by
    have := h.1
    clear h hok
    induction es with
    | nil => exact ⟨[], rfl⟩
    | cons e es ih =>
      obtain ⟨ks, hks⟩ := ih (fun z hz => this z (by simp [hz]))
      obtain ⟨n, b, h1, _⟩ := this e (by simp)
      exact ⟨n :: ks, by rw [List.map_cons, hks, h1]; rfl⟩
  obtain ⟨ks, hks⟩ := h1
  refine ⟨ks, hks, (List.perm_ext_iff_of_nodup ?_ (nodup_lt (keysQ_rise N q))).2 fun n => ?_⟩
  · have h2 : (es.map (·.key)).Nodup := by unfold List.Nodup; rw [List.pairwise_map]; exact hok.keys
    rw [hks, ints, zs, List.map_map] at h2
    exact List.Pairwise.imp (fun {a b} hab hc => hab (by subst hc; rfl)) (List.pairwise_map.1 h2)
  · have hmem : n ∈ ks ↔ ∃ e ∈ es, e.key = .int .i64 (n : Nat) := by
      have h3 : (Value.int .i64 (n : Nat)) ∈ es.map (·.key) ↔ n ∈ ks := by
        rw [hks]
        simp only [ints, zs, List.map_map, List.mem_map, Function.comp]
        constructor
        · rintro ⟨a, ha, hae⟩; have hae := key_inj hae; subst hae; exact ha
        · exact fun ha => ⟨n, ha, rfl⟩
      rw [← h3, List.mem_map]
    rw [hmem, mem_keysQ]
    constructor
    · rintro ⟨e, he, hk⟩
      obtain ⟨n', b, k1, k2, _⟩ := h.1 e he
      rw [hk] at k1; have k1 := key_inj k1; subst k1
      exact ⟨hN _ _ k2, b, k2⟩
    · rintro ⟨_, b, hb⟩
      exact h.2 n b hb
theorem BMap.len {N : Nat} (h : BMap G κ w m q) (hN : ∀ n b, q n = some b → n < N) : lenF w 2 (.map (some m)) = some (.int .i64 (keysQ N q).length) := by
  obtain ⟨es, clk, h1, h2, h3, h4, h5⟩ := h
  obtain ⟨ks, hk, hp⟩ := h5.keys h4 hN
  rw [lenF_m h1, ← hp.length_eq]
  have := congrArg List.length hk
  simp at this
  rw [this]
  simp [ints, zs]
end
end Go.Proofs.YtienelpepioggaaGreat

/- The disk: its image, and what is safe. -/
namespace Go.Proofs.YtienelpepioggaaGreat
open Go
set_option linter.unusedSimpArgs false
open Go.RowKit (intOf)
end Go.Proofs.YtienelpepioggaaGreat

/- The reference's disk: how it lies in memory; what is done with it. -/
namespace Go.Proofs.YtienelpepioggaaGreat
open Go
set_option linter.unusedSimpArgs false
open Go.RowKit (intOf)
theorem own_keepk {k B n : Nat} {el : TypeId} {w w' : World} {v : Value} {xs : List Value} {S : Nat → Prop} (h : w.ownsRow B el k v n xs) (hk : Keep S w w') (hs : ∀ b, v.ownBlock = some b → ¬ S b) : w'.ownsRow B el k v n xs := by
  obtain ⟨h1, h2 | ⟨g, cap, cur, rfl, h2, h3, h4⟩⟩ := h
  · exact ⟨h1, .inl h2⟩
  · exact ⟨h1, .inr ⟨g, cap, cur, rfl, h2, hk.heap h3 (hs g rfl), h4⟩⟩
theorem agg3_cells {x y z : Value} (hx : isCell x = true) (hy : isCell y = true) (hz : isCell z = true) : (Value.agg #[x, y, z]).cells = #[x, y, z] := by
  simp [Value.cells, isCell_cells hx, isCell_cells hy, isCell_cells hz]
section
variable {κ : Nat → Prop} {G G' : Gh} {w w' : World}
end
end Go.Proofs.YtienelpepioggaaGreat

/- The reference's disk: New. -/
namespace Go.Proofs.YtienelpepioggaaGreat
open Go
set_option linter.unusedSimpArgs false
open Go.RowKit (intOf)
theorem agg2_cells {x y : Value} (hx : isCell x = true) (hy : isCell y = true) : (Value.agg #[x, y]).cells = #[x, y] := by
  simp [Value.cells, isCell_cells hx, isCell_cells hy]
end Go.Proofs.YtienelpepioggaaGreat

/- A write, taken or refused; rows; what is mine. -/
namespace Go.Proofs.YtienelpepioggaaGreat
open Go
set_option linter.unusedSimpArgs false
open Go.RowKit (intOf)
theorem fill_of2 {e : Env} {a b : Value} {o s : Nat} {x : Operand} : fillV e #[a, b] [(o, (s, x))] = fillF #[a, b] [(o, s, ev e x)] := fill_all _ _
def wcode (D : Dsk) (n : Int) (b : List UInt8) : Int := if n < 0 ∨ (D.first.length : Int) ≤ n then 2 else if b.length = 512 then 0 else 3
theorem Has.lt {k : Nat} {w : World} {v : Value} {xs : List Value} (h : Has k w v xs) (hx : xs ≠ []) {b : Nat} (hb : v.ownBlock = some b) : b < w.heap.size := by
  rcases h with ⟨b', o, n, c, rfl, h1, h2, h3⟩ | ⟨h1, _⟩
  · cases hb
    have hpos : 0 < xs.length := List.length_pos_iff.2 hx
    exact World.block_lt_of_cell? w _ (h3 0 _ (List.getElem?_eq_getElem (l := xs) hpos))
  · exact absurd h1 hx
end Go.Proofs.YtienelpepioggaaGreat

/- The reference's disk: laws in plain words. -/
namespace Go.Proofs.YtienelpepioggaaGreat
open Go
theorem Dsk.image_fl (D : Dsk) : (D.add .fl).image = D.image := by
  rw [Dsk.image, D.wait_fl, flushed_none, D.safe_fl]
theorem Dsk.cut_zero (D : Dsk) : (D.cut 0).image = D.first := by
  simp [Dsk.cut, Dsk.image, Dsk.safe_new, Dsk.wait_new, flushed_none]
theorem Dsk.Ok.cut {D : Dsk} (h : D.Ok) (k : Nat) : (D.cut k).Ok :=
  ⟨h.rows, fun n b hm => h.ops n b (List.mem_of_mem_take hm), h.some, h.most⟩
end Go.Proofs.YtienelpepioggaaGreat

/- A log of groups of pages in plain words: what a group does to the disk. -/
namespace Go.Proofs.YtienelpepioggaaGreat
open Go
def adds (D : Dsk) (l : List DOp) : Dsk := l.foldl Dsk.add D
theorem adds_cons (D : Dsk) (o : DOp) (l : List DOp) : adds D (o :: l) = adds (D.add o) l := rfl
theorem adds_append (D : Dsk) (l m : List DOp) : adds D (l ++ m) = adds (adds D l) m := by simp [adds, List.foldl_append]
theorem adds_ops (D : Dsk) (l : List DOp) : (adds D l).ops = D.ops ++ l := by
  induction l generalizing D with
  | nil => simp [adds]
  | cons o l ih => rw [adds_cons, ih]; simp [Dsk.add]
theorem adds_first (D : Dsk) (l : List DOp) : (adds D l).first = D.first := by
  induction l generalizing D with
  | nil => rfl
  | cons o l ih => rw [adds_cons, ih]; rfl
/-- A number in two bytes. -/
def hi (n : Nat) : UInt8 := UInt8.ofNat (n / 256)
def lo (n : Nat) : UInt8 := UInt8.ofNat n
/-- The head's bytes. -/
def headB (ns : List Nat) : List UInt8 := ([0x44, 0x4e, hi ns.length, lo ns.length] ++ ns.flatMap fun n => [hi n, lo n]) ++ List.replicate (508 - 2 * ns.length) 0
theorem headB_length {ns : List Nat} (h : ns.length ≤ 100) : (headB ns).length = 512 := by
  have : (ns.flatMap fun n => [hi n, lo n]).length = 2 * ns.length := by
    clear h
    induction ns with
    | nil => rfl
    | cons n ns ih => rw [List.flatMap_cons, List.length_append, ih]; simp; omega
  rw [headB, List.length_append, List.length_append, this]; simp; omega
/-- What a group does: the pages' copies, the head, the pages home, the empty head. -/
def copyOps (k : Nat) : List (Nat × List UInt8) → List DOp
  | [] => []
  | p :: ps => .wr (1 + k) p.2 :: copyOps (k + 1) ps
def homeOps (size : Nat) (ps : List (Nat × List UInt8)) : List DOp := ps.map fun p => .wr (size + 1 + p.1) p.2
def groupOps (size : Nat) (ps : List (Nat × List UInt8)) : List DOp := copyOps 0 ps ++ ([.fl, .wr 0 (headB (ps.map (·.1))), .fl] ++ (homeOps size ps ++ [.fl, .wr 0 (headB []), .fl]))
theorem copyOps_length (k : Nat) (ps : List (Nat × List UInt8)) : (copyOps k ps).length = ps.length := by
  induction ps generalizing k with
  | nil => rfl
  | cons p ps ih => simp [copyOps, ih]
theorem groupOps_length (size : Nat) (ps : List (Nat × List UInt8)) : (groupOps size ps).length = 2 * ps.length + 6 := by
  simp [groupOps, copyOps_length, homeOps]; omega
/-- Writes to other sectors. -/
theorem image_copy (s : Nat) : ∀ (ps : List (Nat × List UInt8)) (k : Nat) (D : Dsk), (s < 1 + k ∨ 1 + k + ps.length ≤ s) → (adds D (copyOps k ps)).image[s]? = D.image[s]?
  | [], k, D, _ => rfl
  | p :: ps, k, D, h => by
    rw [copyOps, adds_cons, image_copy s ps (k + 1) _ (by simp at h; omega), Dsk.image_wr, List.getElem?_set_ne (by simp at h; omega)]
theorem image_copied : ∀ (ps : List (Nat × List UInt8)) (k : Nat) (D : Dsk) (i : Nat) (h : i < ps.length), 1 + k + ps.length ≤ D.first.length → (adds D (copyOps k ps)).image[1 + k + i]? = some ps[i].2
  | p :: ps, k, D, 0, _, hl => by
    rw [copyOps, adds_cons, image_copy _ ps (k + 1) _ (by omega), Dsk.image_wr, Nat.add_zero, List.getElem?_set_self (by rw [D.image_length]; simp at hl; omega)]; rfl
  | p :: ps, k, D, i + 1, h, hl => by
    rw [copyOps, adds_cons]
    have := image_copied ps (k + 1) (D.add (.wr (1 + k) p.2)) i (by simpa using h) (by simp [Dsk.add] at hl ⊢; omega)
    rw [show 1 + k + (i + 1) = 1 + (k + 1) + i from by omega, this]; rfl
theorem image_home_other (size s : Nat) : ∀ (ps : List (Nat × List UInt8)) (D : Dsk), (∀ p ∈ ps, size + 1 + p.1 ≠ s) → (adds D (homeOps size ps)).image[s]? = D.image[s]?
  | [], D, _ => rfl
  | p :: ps, D, h => by
    show (adds (D.add (.wr (size + 1 + p.1) p.2)) (homeOps size ps)).image[s]? = _
    rw [image_home_other size s ps _ (fun q hq => h q (by simp [hq])), Dsk.image_wr, List.getElem?_set_ne (h p (by simp))]
theorem image_home (size : Nat) : ∀ (ps : List (Nat × List UInt8)) (D : Dsk), (ps.map (·.1)).Nodup → (∀ p ∈ ps, size + 1 + p.1 < D.first.length) → ∀ p ∈ ps, (adds D (homeOps size ps)).image[size + 1 + p.1]? = some p.2
  | q :: ps, D, hn, hl, p, hp => by
    rw [List.map_cons, List.nodup_cons] at hn
    show (adds (D.add (.wr (size + 1 + q.1) q.2)) (homeOps size ps)).image[size + 1 + p.1]? = _
    by_cases hps : p ∈ ps
    · exact image_home size ps (D.add (.wr (size + 1 + q.1) q.2)) hn.2 (fun r hr => hl r (by simp [hr])) p hps
    · have hpq : p = q := by simpa [hps] using hp
      subst hpq
      rw [image_home_other size _ ps _ (fun r hr he => hn.1 (List.mem_map.2 ⟨r, hr, by omega⟩)), Dsk.image_wr, List.getElem?_set_self (by rw [D.image_length]; exact hl p (by simp))]
/-- The disk behind a group. -/
def grouped (size : Nat) (D : Dsk) (ps : List (Nat × List UInt8)) : Dsk := adds D (groupOps size ps)
theorem grouped_first (size : Nat) (D : Dsk) (ps : List (Nat × List UInt8)) : (grouped size D ps).first = D.first := adds_first _ _
theorem grouped_ops (size : Nat) (D : Dsk) (ps : List (Nat × List UInt8)) : (grouped size D ps).ops.length = D.ops.length + (2 * ps.length + 6) := by
  rw [grouped, adds_ops, List.length_append, groupOps_length]
theorem grouped_eq (size : Nat) (D : Dsk) (ps : List (Nat × List UInt8)) : grouped size D ps = (((adds ((((adds D (copyOps 0 ps)).add .fl).add (.wr 0 (headB (ps.map (·.1))))).add .fl) (homeOps size ps)).add .fl).add (.wr 0 (headB []))).add .fl := by
  simp only [grouped, groupOps, adds_append]; rfl
/-- A page that the group wrote. -/
theorem grouped_page {size : Nat} {D : Dsk} {ps : List (Nat × List UInt8)} (hn : (ps.map (·.1)).Nodup) (hl : ∀ p ∈ ps, size + 1 + p.1 < D.first.length) {p : Nat × List UInt8} (hp : p ∈ ps) : (grouped size D ps).image[size + 1 + p.1]? = some p.2 := by
  rw [grouped_eq, Dsk.image_fl, Dsk.image_wr, Dsk.image_fl, List.getElem?_set_ne (by omega)]
  exact image_home size ps _ hn (fun q hq => by have := hl q hq; simpa [Dsk.add, adds_first] using this) p hp
/-- A page of no group. -/
theorem grouped_other {size s : Nat} {D : Dsk} {ps : List (Nat × List UInt8)} (hk : ps.length ≤ size) (hs : size < s) (hno : ∀ p ∈ ps, size + 1 + p.1 ≠ s) : (grouped size D ps).image[s]? = D.image[s]? := by
  rw [grouped_eq, Dsk.image_fl, Dsk.image_wr, Dsk.image_fl, List.getElem?_set_ne (by omega), image_home_other size s ps _ hno, Dsk.image_fl, Dsk.image_wr, List.getElem?_set_ne (by omega), Dsk.image_fl, image_copy s ps 0 D (by omega)]
theorem grouped_head {size : Nat} {D : Dsk} {ps : List (Nat × List UInt8)} (hf : 0 < D.first.length) : (grouped size D ps).image[0]? = some (headB []) := by
  rw [grouped_eq, Dsk.image_fl, Dsk.image_wr, List.getElem?_set_self (by rw [Dsk.image_length]; simpa [Dsk.add, adds_first] using hf)]
end Go.Proofs.YtienelpepioggaaGreat

/- A log in memory; its head is written. -/
namespace Go.Proofs.YtienelpepioggaaGreat
open Go
set_option linter.unusedSimpArgs false
open Go.RowKit (intOf)
/-- The log at block q (nobody writes it any more), over a disk of owner κ. -/
def LogAt (G : Gh) (κ : Nat) (w : World) (q : Nat) (size came : Nat) (D : Dsk) : Prop :=
  κ ≠ 0 ∧ 1 ≤ size ∧ size + 2 ≤ D.first.length ∧ G.own q = 0 ∧ ∃ p, w.heap[q]? = some (.cells #[.pointer (some ⟨p, 0, none⟩), .int .i64 size, .int .i64 came] 60 (0, 0)) ∧ DiskAt G κ w p D
theorem LogAt.ext {K : Nat → Prop} {G G' : Gh} {κ : Nat} {w w' : World} {q size came : Nat} {D : Dsk} (h : LogAt G κ w q size came D) (hx : Ext K G w G' w') (hk : ¬ K κ) (h0 : ¬ K 0) : LogAt G' κ w' q size came D := by
  obtain ⟨h1, h2, h3, h4, p, h5, h6⟩ := h
  exact ⟨h1, h2, h3, by rw [hx.own q (hx.lt h5)]; exact h4, p, hx.heap h5 (by rw [h4]; exact h0), h6.ext hx hk⟩
theorem LogAt.grow {G : Gh} {κ : Nat} {w w' : World} {q size came : Nat} {D : Dsk} (h : LogAt G κ w q size came D) (hg : Grow w w') : LogAt G κ w' q size came D := h.ext (K := fun _ => False) (.grow hg) id id
/-- What stands behind an operation on the log's disk. -/
theorem LogAt.put {G G' : Gh} {κ : Nat} {w w' : World} {q size came p : Nat} {D E : Dsk} (h : LogAt G κ w q size came D) (hp : w.cell? ⟨q, 0, none⟩ = some (.pointer (some ⟨p, 0, none⟩))) (hx : Ext (fun c => c = κ) G w G' w') (hE : E.first = D.first) (hd : DiskAt G' κ w' p E) : LogAt G' κ w' q size came E := by
  obtain ⟨h1, h2, h3, h4, p', h5, h6⟩ := h
  have : w.cell? ⟨q, 0, none⟩ = some (.pointer (some ⟨p', 0, none⟩)) := by rw [cell_block h5]; rfl
  rw [this] at hp; cases hp
  exact ⟨h1, h2, by rw [hE]; exact h3, by rw [hx.own q (hx.lt h5)]; exact h4, p, hx.heap h5 (by rw [h4]; exact fun h => h1 h.symm), hd⟩
theorem bin_shr8 {n : Int} : binV .shr (.int .i64 n) (.int .u64 8) = some (.int .i64 (n / 256)) := by
  simp only [binV]
  rw [if_neg (by omega)]
  have h8 : (2 : Int) ^ (min (Int.toNat 8) IntKind.i64.bits) = 256 := by decide
  rw [h8, Int.fdiv_eq_ediv_of_nonneg _ (by omega)]
theorem Has.new2 {w : World} {x y : Value} {t : TypeId} : Has 1 (w.alloc (.cells #[x, y] t)) (.slice (some ⟨w.heap.size, 0, none⟩) 2 2) [x, y] := by
  refine .inl ⟨w.heap.size, 0, 2, 2, rfl, rfl, Nat.le_refl _, fun j u hj => ?_⟩
  rw [cell_block (heap_alloc_new w _)]
  match j, hj with
  | 0, hj => simpa using hj
  | 1, hj => simpa using hj
section rules
variable {P : Program} {k : Kont} {e : Env} {w : World} {l : List GOp} {d : Option Nat}
/-- append where there is room, to the cell. -/
theorem app_exact {x y : Operand} {t el ty : TypeId} {bytes g n cap : Nat} {z u : Value} {cur : Array Value} {news : List Value} (he : ElemIs P t el 1 bytes z) (hx : ev e x = .slice (some ⟨g, 0, none⟩) n cap) (hy : ev e y = u)
    (hb : w.heap[g]? = some (.cells cur el (0, 0))) (hcap : cap ≤ cur.size) (hr : n + news.length ≤ cap) (hsrc : Has 1 w u news) (hne : news ≠ []) (hq : ∀ q ∈ news, isCell q = true)
    (h : ∀ w', Keep (fun b => b = g) w w' → w'.heap[g]? = some (.cells (cur.toList.take n ++ news ++ cur.toList.drop (n + news.length)).toArray el (0, 0)) → R (symOps P l k (updO e d (.slice (some ⟨g, 0, none⟩) (n + news.length) cap)) w')) :
    R (symOps P (⟨d, .hard (H (.call { callee := .builtin .append, args := #[x, y], argTypes := #[t, t] }) ty), none⟩ :: l) k e w) := by
  obtain ⟨i, hi, hz, hsz, hby⟩ := he.hi
  rcases hsrc with ⟨b, o, m, c, rfl, s1, s2, s3⟩ | ⟨s1, _⟩
  · have hm : m = news.length := by simpa using s1.symm
    subst hm
    have hrun := run_append_room (P := P) w t ty el i he.ht hi g n cap cur hb ⟨b, o, none⟩ news.length c news (by simp [hsz]) (fun j u hj => by rw [add_lit]; exact s3 j u hj) (fun u hu => isCell_one (hq u hu)) (by omega) (by simp [hsz]; omega)
    have hrr := setRow_heap w g cur ((List.take (n * i.size) cur.toList ++ news ++ List.drop (n * i.size + news.length) cur.toList).toArray) el (0, 0) hb
    have hkk : Keep (fun b => b = g) w (w.setRow g ((List.take (n * i.size) cur.toList ++ news ++ List.drop (n * i.size + news.length) cur.toList).toArray)) := ⟨rfl, rfl, rfl, by simp, fun k _ hk => setRow_other w g k _ hk⟩
    generalize w.setRow g ((List.take (n * i.size) cur.toList ++ news ++ List.drop (n * i.size + news.length) cur.toList).toArray) = w' at hrun hrr hkk
    refine hard_rule (run_builtin (vs := [.slice (some ⟨g, 0, none⟩) n cap, .slice (some ⟨b, o, none⟩) news.length c]) (by simp [hx, hy]) (fun cs => by simp only [builtin, Sem.run_bind, hrun, Result.andThen_ok]; rfl)) (h _ hkk ?_)
    simpa [hsz] using hrr
  · exact absurd s1 hne
end rules
end Go.Proofs.YtienelpepioggaaGreat

/- The log's head is written, and flushed. -/
namespace Go.Proofs.YtienelpepioggaaGreat
open Go
set_option linter.unusedSimpArgs false
open Go.RowKit (intOf)
/-- The head's first bytes, i numbers of it. -/
def headP (ns : List Nat) (i : Nat) : List UInt8 := [0x44, 0x4e, hi ns.length, lo ns.length] ++ (ns.take i).flatMap fun n => [hi n, lo n]
theorem headP_length (ns : List Nat) {i : Nat} (h : i ≤ ns.length) : (headP ns i).length = 4 + 2 * i := by
  have : ∀ l : List Nat, (l.flatMap fun n => [hi n, lo n]).length = 2 * l.length := by
    intro l
    induction l with
    | nil => rfl
    | cons n l ih => rw [List.flatMap_cons, List.length_append, ih]; simp; omega
  rw [headP, List.length_append, this, List.length_take, Nat.min_eq_left h]; simp <;> omega
theorem headP_all (ns : List Nat) : headP ns ns.length ++ List.replicate (508 - 2 * ns.length) 0 = headB ns := by rw [headP, List.take_length]; rfl
theorem headP_succ (ns : List Nat) {i : Nat} (h : i < ns.length) : headP ns (i + 1) = headP ns i ++ [hi ns[i], lo ns[i]] := by
  rw [headP, headP, List.take_succ_eq_append_getElem h, List.flatMap_append]; simp
theorem hi_val {n : Nat} : ((hi n).toNat : Int) = ((n : Int) / 256) % 256 := by
  rw [hi, UInt8.toNat_ofNat']; omega
theorem lo_val {n : Nat} : ((lo n).toNat : Int) = (n : Int) % 256 := by
  rw [lo, UInt8.toNat_ofNat']; omega
theorem repl4 (z : Value) : List.replicate 512 z = z :: z :: z :: z :: List.replicate 508 z := by
  rw [List.replicate_succ (n := 511), List.replicate_succ (n := 510), List.replicate_succ (n := 509), List.replicate_succ (n := 508)]
theorem first4 (z a b c d : Value) : ((((Array.replicate 512 z).setIfInBounds 0 a).setIfInBounds 1 b).setIfInBounds 2 c).setIfInBounds 3 d = ([a, b, c, d] ++ List.replicate (508 - 2 * 0) z).toArray := by
  apply Array.ext'
  rw [Array.toList_setIfInBounds, Array.toList_setIfInBounds, Array.toList_setIfInBounds, Array.toList_setIfInBounds, Array.toList_replicate, repl4]
  rw [show 508 - 2 * 0 = 508 from rfl]
  generalize List.replicate 508 z = r
  rfl
theorem zero_cells (n : Nat) : List.replicate n (Value.int .u8 0) = bs (List.replicate n 0) := by simp [bs]
theorem setHead_spec {G : Gh} {κ : Nat} {w : World} {q size came : Nat} {D : Dsk} {nv : Value} {ns : List Nat} (h : LogAt G κ w q size came D) (hn : HasI w nv (zs ns)) (hl : ns.length ≤ 100) (ho : D.ops.length < 900000) :
    Calls Tryz.prog 51 #[.pointer (some ⟨q, 0, none⟩), nv] w (Ret fun _ w' => ∃ G', LogAt G' κ w' q size came ((D.add (.wr 0 (headB ns))).add .fl) ∧ Ext (fun c => c = κ) G w G' w') := by
  have hlog := h
  obtain ⟨hκ, hsz1, hsz2, ho0, p, hq, hd⟩ := h
  have hlen : ∀ w', lenF w' 0 nv = some (.int .i64 ns.length) := fun w' => by rw [hn.lenI]; simp
  have hok := hd.ok
  have hmost := hok.most
  apply enter51
  apply R_in
  simp (maxSteps := 600000) (disch := omega) only [F51, ↓sy1, sy2, sy3, readOK, sy5, sy6, Nat.reduceEqDiff, ↓reduceIte, sy7, sy8, sy9, sya, oneOf, syb, syc, Nat.reduceAdd, Nat.reduceMul, syd, sye, syf, syg, syh, reduceCtorEq]
  refine mk_rule elemB (kx := .i64) (ky := .i64) (a := 4) (c := 512) (by simp only [upd_at, Nat.reduceEqDiff, reduceIte, ev_tmp, ev_const, List.map_cons, List.map_nil]) (by simp only [upd_at, Nat.reduceEqDiff, reduceIte, ev_tmp, ev_const, List.map_cons, List.map_nil]) (by omega) (by omega) (by omega) (by omega) rfl ?_
  have hg1 : Grow w (w.alloc (.cells (Array.replicate (512 : Int).toNat (.int .u8 0)) 5)) := (Keep.refl _ _).alloc _
  have hb1 := heap_alloc_new w (.cells (Array.replicate (512 : Int).toNat (.int .u8 0)) 5)
  generalize w.alloc (.cells (Array.replicate (512 : Int).toNat (.int .u8 0)) 5) = w1 at hg1 hb1 ⊢
  rw [show (512 : Int).toNat = 512 from rfl] at hb1 ⊢
  rw [show (4 : Int).toNat = 4 from rfl]
  have hgq : w.heap.size ≠ q := by have := (Array.getElem?_eq_some_iff.1 hq).1; omega
  have hgge : w.heap.size ≤ w.heap.size := Nat.le_refl _
  generalize hgg : w.heap.size = g at hb1 hgq hgge ⊢
  obtain ⟨w2, hst2, hb2, hk2⟩ := cell_store hb1 (i := 0) (by simp) (u := .int .u8 68) rfl
  obtain ⟨w3, hst3, hb3, hk3⟩ := cell_store hb2 (i := 1) (by simp) (u := .int .u8 78) rfl
  obtain ⟨w4, hst4, hb4, hk4⟩ := cell_store hb3 (i := 2) (by simp) (u := .int .u8 (((ns.length : Int) / 256) % 256)) rfl
  obtain ⟨w5, hst5, hb5, hk5⟩ := cell_store hb4 (i := 3) (by simp) (u := .int .u8 ((ns.length : Int) % 256)) rfl
  have hi0 : iaF 1 (.slice (some ⟨g, 0, none⟩) 4 512) (.int .i64 0) = some (.pointer (some ⟨g, 0, none⟩)) := by rw [iaF_s (by omega)]; simp [add_lit]
  have hi1 : iaF 1 (.slice (some ⟨g, 0, none⟩) 4 512) (.int .i64 1) = some (.pointer (some ⟨g, 1, none⟩)) := by rw [iaF_s (by omega)]; simp [add_lit]
  have hi2 : iaF 1 (.slice (some ⟨g, 0, none⟩) 4 512) (.int .i64 2) = some (.pointer (some ⟨g, 2, none⟩)) := by rw [iaF_s (by omega)]; simp [add_lit]
  have hi3 : iaF 1 (.slice (some ⟨g, 0, none⟩) 4 512) (.int .i64 3) = some (.pointer (some ⟨g, 3, none⟩)) := by rw [iaF_s (by omega)]; simp [add_lit]
  generalize hsv : Value.slice (some ⟨g, 0, none⟩) 4 512 = sv at hi0 hi1 hi2 hi3 ⊢
  simp (maxSteps := 600000) (disch := omega) only [↓sy1, sy2, sy3, readOK, sy5, sy6, Nat.reduceEqDiff, ↓reduceIte, sy7, sy8, sy9, sya, oneOf, syb, syc, Nat.reduceAdd, Nat.reduceMul, syd, sye, syf, syg, syh, reduceCtorEq, hlen, bin_shr8, hi0, hi1, hi2, hi3, hst2, hst3, hst4, hst5]
  have hg5 : Grow w w5 := (((hg1.then hk2 (fun b hb h => by omega)).then hk3 (fun b hb h => by omega)).then hk4 (fun b hb h => by omega)).then hk5 (fun b hb h => by omega)
  have hcells : w5.heap[g]? = some (.cells (bs (headP ns 0) ++ List.replicate (508 - 2 * 0) (Value.int .u8 0)).toArray 5 (0, 0)) := by
    rw [hb5]
    have hbs : bs (headP ns 0) = [Value.int .u8 68, Value.int .u8 78, Value.int .u8 (((ns.length : Int) / 256) % 256), Value.int .u8 ((ns.length : Int) % 256)] := by
      simp [headP, bs, hi_val, lo_val]
    have hz := first4 (.int .u8 0) (.int .u8 68) (.int .u8 78) (.int .u8 (((ns.length : Int) / 256) % 256)) (.int .u8 ((ns.length : Int) % 256))
    rw [hz, hbs]
  refine loop_rule (fun e w' => ∃ i : Nat, i ≤ ns.length ∧ e 25 = .int .i64 i ∧ e 24 = .int .i64 ns.length ∧ e 23 = nv ∧ e 0 = .pointer (some ⟨q, 0, none⟩) ∧ e 4 = .slice (some ⟨g, 0, none⟩) (4 + 2 * i) 512 ∧
      w'.heap[g]? = some (.cells (bs (headP ns i) ++ List.replicate (508 - 2 * i) (Value.int .u8 0)).toArray 5 (0, 0)) ∧ Grow w w') (fun e _ => ns.length - (intOf (e 25)).toNat)
    ⟨0, by omega, by simp [upd, updO, ev], by simp [upd, updO, ev], by simp [upd, updO, ev], by simp [upd, updO, ev], by simp [upd, updO, ev, hsv], hcells, hg5⟩ ?_
  rintro e w6 ⟨i, hi, e25, e24, e23, e0, e4, hb6, hg6⟩
  have hpl := headP_length ns hi
  by_cases hlt : i < ns.length
  · obtain ⟨a, ha, hac, _⟩ := (hn.grow hg6).getI (l := zs ns) (i := i) (by simpa using hlt)
    have hnv : (zs ns)[i]'(by simpa using hlt) = ((ns[i] : Nat) : Int) := by simp
    rw [hnv] at hac
    simp (maxSteps := 600000) (disch := omega) only [F51_L0, ↓sy1, sy2, sy3, readOK, sy5, sy6, Nat.reduceEqDiff, ↓reduceIte, sy7, sy8, sy9, sya, oneOf, syb, syc, Nat.reduceAdd, Nat.reduceMul, syd, sye, syf, syg, syh, reduceCtorEq, e25, e24, e23, e0, e4, Int.ofNat_lt, hlt, decide_true, ha, hac, bin_shr8, fill_gen, fillF_2 (a := .int .u8 0) (b := .int .u8 0) (show isCell (.int .u8 (((ns[i] : Nat) : Int) / 256 % 256)) = true from rfl) (show isCell (.int .u8 (((ns[i] : Nat) : Int) % 256)) = true from rfl)]
    have hg7 : Grow w6 (w6.alloc (.cells #[.int .u8 (((ns[i] : Nat) : Int) / 256 % 256), .int .u8 (((ns[i] : Nat) : Int) % 256)] 5)) := (Keep.refl _ _).alloc _
    refine app_exact (g := g) (n := 4 + 2 * i) (cap := 512) elemB (by simp only [upd_at, Nat.reduceEqDiff, reduceIte, ev_tmp, ev_const, List.map_cons, List.map_nil, e4]) (by simp only [upd_at, Nat.reduceEqDiff, reduceIte, ev_tmp, ev_const, List.map_cons, List.map_nil]) (hg7.gheap hb6) (by simp [bs, hpl]; omega) (by simp; omega) Has.new2 (by simp) (by simp [isCell]) ?_
    intro w8 hk8 hb8
    simp (maxSteps := 600000) (disch := omega) only [↓sy1, sy2, sy3, readOK, sy5, sy6, Nat.reduceEqDiff, ↓reduceIte, sy7, sy8, sy9, sya, oneOf, syb, syc, Nat.reduceAdd, Nat.reduceMul, syd, sye, syf, syg, syh, reduceCtorEq, e25, e24, e23, e0]
    refine R_out ⟨⟨i + 1, by omega, rfl, rfl, ?_, (hg6.trans hg7).then hk8 (fun b hb h => by omega)⟩, ?_⟩
    · rw [hb8]
      congr 2
      apply Array.ext'
      have h1 : (bs (headP ns i)).length = 4 + 2 * i := by rw [bs_length, hpl]
      simp only [List.toList_toArray]
      rw [headP_succ ns hlt, List.take_left' h1, List.drop_append, List.drop_of_length_le (by rw [h1]; simp), List.nil_append, List.drop_replicate]
      simp only [bs, List.map_append, List.map_cons, List.map_nil, hi_val, lo_val, List.length_cons, List.length_nil]
      congr 2
      have : (List.map (fun b : UInt8 => Value.int .u8 (b.toNat : Int)) (headP ns i)).length = 4 + 2 * i := by rw [List.length_map, hpl]
      rw [this]; omega
    · simp only [intOf]; omega
  · have hie : i = ns.length := by omega
    subst hie
    have hqp : ∀ {w'}, Grow w w' → w'.cell? ⟨q, 0, none⟩ = some (.pointer (some ⟨p, 0, none⟩)) := fun hg => by rw [cell_block (hg.gheap hq)]; rfl
    simp (maxSteps := 600000) (disch := omega) only [F51_L0, ↓sy1, sy2, sy3, readOK, sy5, sy6, Nat.reduceEqDiff, ↓reduceIte, sy7, sy8, sy9, sya, oneOf, syb, syc, Nat.reduceAdd, Nat.reduceMul, syd, sye, syf, syg, syh, reduceCtorEq, e25, e24, e23, e0, e4, Int.ofNat_lt, hlt, decide_false]
    refine draw51_0 (fun _ => False) ?_
    have hgd : Grow w6 w6.drew := (Keep.refl _ _).drew
    have hb7 := hgd.gheap hb6
    have hg7 := hg6.trans hgd
    generalize w6.drew = w7 at hb7 hg7 ⊢
    have hslc : slcV 1 (some ⟨g, 0, none⟩) (4 + 2 * ns.length) 512 none (some (.int .i64 512)) none = some (.slice (some ⟨g, 0, none⟩) 512 512) := by
      simp [slcV, bndV, add_lit]
    have hhb := headB_length hl
    have hu : HasB w7 (.slice (some ⟨g, 0, none⟩) 512 512) (headB ns) := by
      refine .inl ⟨g, 0, 512, 512, rfl, by rw [bs_length, hhb], Nat.le_refl _, fun j u hj => ?_⟩
      rw [cell_block hb7, Nat.zero_add]
      have : bs (headP ns ns.length) ++ List.replicate (508 - 2 * ns.length) (Value.int .u8 0) = bs (headB ns) := by
        rw [← headP_all, zero_cells]; simp [bs]
      rw [this, List.getElem?_toArray]; exact hj
    simp (maxSteps := 600000) (disch := omega) only [PL51_0, ↓sy1, sy2, sy3, readOK, sy5, sy6, Nat.reduceEqDiff, ↓reduceIte, sy7, sy8, sy9, sya, oneOf, syb, syc, Nat.reduceAdd, Nat.reduceMul, syd, sye, syf, syg, syh, reduceCtorEq, e25, e24, e23, e0, e4, hqp hg7, hslc]
    refine call0 (write_spec (n := 0) (hd.grow hg7) (by omega) hhb hu (by omega)) ?_
    rintro _ w8 ⟨rfl, G8, hd8, hx8⟩
    have hx7 : Ext (fun c => c = κ) G w G8 w8 := (Ext.grow hg7).trans hx8
    have hl8 := hlog.put (E := D.add (.wr 0 (headB ns))) (hqp (Keep.refl _ _)) hx7 rfl hd8
    have hq8 : w8.cell? ⟨q, 0, none⟩ = some (.pointer (some ⟨p, 0, none⟩)) := by rw [cell_block (hx7.heap hq (by rw [ho0]; exact fun h => hκ h.symm))]; rfl
    simp (maxSteps := 600000) (disch := omega) only [↓sy1, sy2, sy3, readOK, sy5, sy6, Nat.reduceEqDiff, ↓reduceIte, sy7, sy8, sy9, sya, oneOf, syb, syc, Nat.reduceAdd, Nat.reduceMul, syd, sye, syf, syg, syh, reduceCtorEq, e0, hq8]
    refine call0 (flush_spec hd8 (by simp [Dsk.add]; omega)) ?_
    rintro _ w9 ⟨rfl, G9, hd9, hx9⟩
    simp (maxSteps := 600000) (disch := omega) only [↓sy1, sy2, sy3, readOK, sy5, sy6, Nat.reduceEqDiff, ↓reduceIte, sy7, sy8, sy9, sya, oneOf, syb, syc, Nat.reduceAdd, Nat.reduceMul, syd, sye, syf, syg, syh, reduceCtorEq]
    exact R_out ⟨G9, hl8.put (E := (D.add (.wr 0 (headB ns))).add .fl) hq8 hx9 rfl hd9, hx7.trans hx9⟩
end Go.Proofs.YtienelpepioggaaGreat

/- Pages are brought home. -/
namespace Go.Proofs.YtienelpepioggaaGreat
open Go
set_option linter.unusedSimpArgs false
open Go.RowKit (intOf)
/-- A row that others than κ hold. -/
def Held (G : Gh) (κ : Nat) (w : World) (v : Value) (xs : List Value) : Prop := Has 1 w v xs ∧ ∀ b, v.ownBlock = some b → xs ≠ [] → b < w.heap.size ∧ G.own b ≠ κ
theorem Held.ext {κ : Nat} {G G' : Gh} {w w' : World} {v : Value} {xs : List Value} (h : Held G κ w v xs) (hx : Ext (fun c => c = κ) G w G' w') : Held G' κ w' v xs := by
  refine ⟨h.1.keep hx.keep (fun b hb hne => (h.2 b hb hne).2), fun b hb hne => ?_⟩
  obtain ⟨h1, h2⟩ := h.2 b hb hne
  exact ⟨Nat.lt_of_lt_of_le h1 hx.size, by rw [hx.own b h1]; exact h2⟩
theorem Held.nil (G : Gh) (κ : Nat) (w : World) : Held G κ w (.slice none 0 0) [] := ⟨Has.nil 1 w, fun _ _ h => absurd rfl h⟩
theorem homeOps_take (size : Nat) (ps : List (Nat × List UInt8)) {i : Nat} (h : i < ps.length) : homeOps size (ps.take (i + 1)) = homeOps size (ps.take i) ++ [.wr (size + 1 + ps[i].1) ps[i].2] := by
  rw [homeOps, List.take_succ_eq_append_getElem h, List.map_append]; rfl
theorem adds_snoc (D : Dsk) (l : List DOp) (o : DOp) : adds D (l ++ [o]) = (adds D l).add o := by rw [adds_append]; rfl
/-- The disk behind home. -/
def homed (size : Nat) (D : Dsk) (ps : List (Nat × List UInt8)) : Dsk := (((adds D (homeOps size ps)).add .fl).add (.wr 0 (headB []))).add .fl
theorem home_spec {G : Gh} {κ : Nat} {w : World} {q size came : Nat} {D : Dsk} {nv : Value} {ps : List (Nat × List UInt8)} (h : LogAt G κ w q size came D) (hn : Held G κ w nv (ints (zs (ps.map (·.1))))) (hl : ps.length ≤ size) (hb : ∀ p ∈ ps, p.2.length = 512 ∧ size + 1 + p.1 < D.first.length)
    (himg : ∀ i (h : i < ps.length), D.image[1 + i]? = some ps[i].2) (ho : D.ops.length + ps.length < 800000) :
    Calls Tryz.prog 19 #[.pointer (some ⟨q, 0, none⟩), nv] w (Ret fun _ w' => ∃ G', LogAt G' κ w' q size came (homed size D ps) ∧ Ext (fun c => c = κ) G w G' w') := by
  have hlen : ∀ w', lenF w' 0 nv = some (.int .i64 ps.length) := fun w' => by rw [Has.lenI hn.1]; simp
  apply enter19
  apply R_in
  simp (maxSteps := 600000) (disch := omega) only [F19, ↓sy1, sy2, sy3, readOK, sy5, sy6, Nat.reduceEqDiff, ↓reduceIte, sy7, sy8, sy9, sya, oneOf, syb, syc, Nat.reduceAdd, Nat.reduceMul, syd, sye, syf, syg, syh, reduceCtorEq, hlen]
  have hsz := h.2.2.1
  refine loop_rule (fun e w' => ∃ (i : Nat) (G' : Gh), i ≤ ps.length ∧ e 10 = .int .i64 i ∧ e 9 = .int .i64 ps.length ∧ e 8 = nv ∧ e 0 = .pointer (some ⟨q, 0, none⟩) ∧ LogAt G' κ w' q size came (adds D (homeOps size (ps.take i))) ∧ Ext (fun c => c = κ) G w G' w') (fun e _ => ps.length - (intOf (e 10)).toNat)
    ⟨0, G, by omega, by simp [upd, updO, ev], by simp [upd, updO, ev], by simp [upd, updO, ev], by simp [upd, updO, ev], h, .refl _ _ _⟩ ?_
  rintro e w1 ⟨i, G1, hi, e10, e9, e8, e0, h1, hx1⟩
  have hlog := h1
  obtain ⟨hκ, hs1, hs2, ho0, p, hq, hd⟩ := h1
  have hqp : ∀ {w'}, Grow w1 w' → w'.cell? ⟨q, 0, none⟩ = some (.pointer (some ⟨p, 0, none⟩)) ∧ w'.cell? ⟨q, 1, none⟩ = some (.int .i64 size) := fun hg => ⟨by rw [cell_block (hg.gheap hq)]; rfl, by rw [cell_block (hg.gheap hq)]; rfl⟩
  have hf : (adds D (homeOps size (ps.take i))).first = D.first := adds_first _ _
  have hops : (adds D (homeOps size (ps.take i))).ops.length ≤ D.ops.length + i := by
    rw [adds_ops]; simp [homeOps]; omega
  have hmost := hd.ok.most
  rw [hf] at hmost
  by_cases hlt : i < ps.length
  · obtain ⟨a, ha, hac, _⟩ := Has.getI (l := zs (ps.map (·.1))) (hn.ext hx1).1 (i := i) (by simpa using hlt)
    have hnv : (zs (ps.map (·.1)))[i]'(by simpa using hlt) = ((ps[i].1 : Nat) : Int) := by simp
    rw [hnv] at hac
    simp (maxSteps := 600000) (disch := omega) only [F19_L0, ↓sy1, sy2, sy3, readOK, sy5, sy6, Nat.reduceEqDiff, ↓reduceIte, sy7, sy8, sy9, sya, oneOf, syb, syc, Nat.reduceAdd, Nat.reduceMul, syd, sye, syf, syg, syh, reduceCtorEq, e10, e9, e8, e0, Int.ofNat_lt, hlt, decide_true, ha, hac, hqp (Keep.refl _ _)]
    rw [show (1 : Int) + (i : Int) = ((1 + i : Nat) : Int) from by omega]
    obtain ⟨hb1, hb2⟩ := hb ps[i] (List.getElem_mem hlt)
    refine call0 (read_spec hd (n := 1 + i) (by rw [hf]; omega)) ?_
    rintro _ w2 ⟨u, rfl, hu, hg2⟩
    have hcur : (adds D (homeOps size (ps.take i))).image[1 + i]? = some ps[i].2 := by
      rw [image_home_other size (1 + i) _ _ (fun r hr => by omega)]; exact himg i hlt
    have hcur' : (adds D (homeOps size (ps.take i))).image[1 + i]'(by rw [Dsk.image_length, hf]; omega) = ps[i].2 := by
      rw [List.getElem?_eq_getElem (by rw [Dsk.image_length, hf]; omega)] at hcur; exact Option.some.inj hcur
    rw [hcur'] at hu
    simp (maxSteps := 600000) (disch := omega) only [↓sy1, sy2, sy3, readOK, sy5, sy6, Nat.reduceEqDiff, ↓reduceIte, sy7, sy8, sy9, sya, oneOf, syb, syc, Nat.reduceAdd, Nat.reduceMul, syd, sye, syf, syg, syh, reduceCtorEq, e10, e9, e8, e0]
    refine draw19_0 (fun _ => False) ?_
    have hgd : Grow w2 w2.drew := (Keep.refl _ _).drew
    have hg3 := hg2.trans hgd
    have hu3 := own_grow hu hgd
    generalize w2.drew = w3 at hg3 hu3 ⊢
    simp (maxSteps := 600000) (disch := omega) only [PL19_0, ↓sy1, sy2, sy3, readOK, sy5, sy6, Nat.reduceEqDiff, ↓reduceIte, sy7, sy8, sy9, sya, oneOf, syb, syc, Nat.reduceAdd, Nat.reduceMul, syd, sye, syf, syg, syh, reduceCtorEq, e10, e9, e8, e0, hqp hg3]
    rw [show (size : Int) + 1 + ((ps[i].1 : Nat) : Int) = ((size + 1 + ps[i].1 : Nat) : Int) from by omega]
    refine call0 (write_spec (hd.grow hg3) (by rw [hf]; exact hb2) hb1 (Has.own hu3) (by omega)) ?_
    rintro _ w4 ⟨rfl, G4, hd4, hx4⟩
    simp (maxSteps := 600000) (disch := omega) only [↓sy1, sy2, sy3, readOK, sy5, sy6, Nat.reduceEqDiff, ↓reduceIte, sy7, sy8, sy9, sya, oneOf, syb, syc, Nat.reduceAdd, Nat.reduceMul, syd, sye, syf, syg, syh, reduceCtorEq, e10, e9, e8, e0]
    have hx14 : Ext (fun c => c = κ) G1 w1 G4 w4 := (Ext.grow hg3).trans hx4
    have hstep : adds D (homeOps size (ps.take (i + 1))) = (adds D (homeOps size (ps.take i))).add (.wr (size + 1 + ps[i].1) ps[i].2) := by rw [homeOps_take size ps hlt, adds_snoc]
    refine R_out ⟨⟨i + 1, G4, by omega, rfl, by rw [hstep]; exact hlog.put (hqp (Keep.refl _ _)).1 hx14 rfl hd4, hx1.trans hx14⟩, ?_⟩
    simp only [intOf]; omega
  · have hie : i = ps.length := by omega
    subst hie
    rw [List.take_length] at hlog hd hops hf
    simp (maxSteps := 600000) (disch := omega) only [F19_L0, ↓sy1, sy2, sy3, readOK, sy5, sy6, Nat.reduceEqDiff, ↓reduceIte, sy7, sy8, sy9, sya, oneOf, syb, syc, Nat.reduceAdd, Nat.reduceMul, syd, sye, syf, syg, syh, reduceCtorEq, e10, e9, e8, e0, Int.ofNat_lt, hlt, decide_false, hqp (Keep.refl _ _)]
    refine call0 (flush_spec hd (by omega)) ?_
    rintro _ w2 ⟨rfl, G2, hd2, hx2⟩
    have hlog2 := hlog.put (E := (adds D (homeOps size ps)).add .fl) (hqp (Keep.refl _ _)).1 hx2 rfl hd2
    simp (maxSteps := 600000) (disch := omega) only [↓sy1, sy2, sy3, readOK, sy5, sy6, Nat.reduceEqDiff, ↓reduceIte, sy7, sy8, sy9, sya, oneOf, syb, syc, Nat.reduceAdd, Nat.reduceMul, syd, sye, syf, syg, syh, reduceCtorEq, e0]
    refine call0 (setHead_spec (ns := []) hlog2 (Has.nil 1 w2) (by simp) (by simp [Dsk.add]; omega)) ?_
    rintro _ w3 ⟨G3, hlog3, hx3⟩
    simp (maxSteps := 600000) (disch := omega) only [↓sy1, sy2, sy3, readOK, sy5, sy6, Nat.reduceEqDiff, ↓reduceIte, sy7, sy8, sy9, sya, oneOf, syb, syc, Nat.reduceAdd, Nat.reduceMul, syd, sye, syf, syg, syh, reduceCtorEq]
    exact R_out ⟨G3, hlog3, (hx1.trans hx2).trans hx3⟩
end Go.Proofs.YtienelpepioggaaGreat

/- The reference's disk: what it tells. -/
namespace Go.Proofs.YtienelpepioggaaGreat
open Go
set_option linter.unusedSimpArgs false
open Go.RowKit (intOf)
/-- append to an own row; where its block is then. -/
theorem app_own2 {P : Program} {k : Kont} {e : Env} {w : World} {l : List GOp} {d : Option Nat} {x y : Operand} {t el ty : TypeId} {size bytes B m cnt : Nat} {z v u : Value} {xs news : List Value} (he : ElemIs P t el size bytes z)
    (hx : ev e x = v) (hy : ev e y = u) (hown : w.ownsRow B el size v cnt xs) (hsrc : Has size w u news) (hm : news.length = m * size) (hcell : ∀ q ∈ news, isCell q = true)
    (hbytes : (cnt + m) * bytes ≤ 140737488355328) (h63 : cnt + m ≤ 140737488355328) (hB : B ≤ w.heap.size)
    (h : ∀ v' w', w'.ownsRow B el size v' (cnt + m) (xs ++ news) → w.grownBy w' v.ownBlock → (v'.ownBlock = v.ownBlock ∨ v'.ownBlock = some w.heap.size) → R (symOps P l k (updO e d v') w')) :
    R (symOps P (⟨d, .hard (H (.call { callee := .builtin .append, args := #[x, y], argTypes := #[t, t] }) ty), none⟩ :: l) k e w) := by
  obtain ⟨i, hi, hz, hsz, hby⟩ := he.hi
  have hpos := he.pos
  have h63' : cnt + m ≤ maxLen := by unfold maxLen; omega
  rcases hsrc with ⟨b, o, q, c, rfl, h1, h2, h3⟩ | ⟨rfl, rfl⟩
  · have hqm : q = m := Nat.eq_of_mul_eq_mul_right hpos (h1.symm.trans hm)
    subst hqm
    obtain ⟨v', w', hr, ho, hg, _, hb⟩ := run_append_own_at (P := P) w B t ty el i z size bytes he.ht hi hz hsz hby he.hz hpos v cnt xs hown ⟨b, o, none⟩ q c news h1
      (fun j u hj => by rw [add_lit]; exact h3 j u hj) (fun u hu => isCell_one (hcell u hu)) h63' hbytes hB
    exact hard_rule (run_builtin (vs := [v, .slice (some ⟨b, o, none⟩) q c]) (by simp [hx, hy]) (fun cs => by simp [builtin, hr])) (h v' w' ho hg hb)
  · have hm0 : m = 0 := by
      rcases Nat.eq_zero_or_pos m with h0 | h0
      · exact h0
      · have := Nat.mul_pos h0 hpos
        simp only [List.length_nil] at hm; omega
    subst hm0
    have hr : (Builtin.append_ #[t, t] ty #[v, .slice none 0 0]).run P w = .ok v w := by
      obtain ⟨_, ⟨rfl, rfl⟩ | ⟨g, cap, cur, rfl, h2, h3, h4, h5, h6, h7⟩⟩ := hown
      · simp [Builtin.append_, run_underlying he.ht, sizeOf, typeInfo, hi, Builtin.lenOf, Builtin.firstCells]
      · simp [Builtin.append_, run_underlying he.ht, sizeOf, typeInfo, hi, Builtin.lenOf, Builtin.firstCells, h4, storeCells]
    exact hard_rule (run_builtin (vs := [v, .slice none 0 0]) (by simp [hx, hy]) (fun cs => by simp [builtin, hr])) (h v w (by simpa using hown) ⟨rfl, rfl, rfl, Nat.le_refl _, fun _ _ _ => rfl⟩ (.inl rfl))
end Go.Proofs.YtienelpepioggaaGreat

/- The disk as it stood. -/
namespace Go.Proofs.YtienelpepioggaaGreat
open Go
set_option linter.unusedSimpArgs false
open Go.RowKit (intOf)
theorem OpsF.take {G : Gh} {w : World} : ∀ {vs : List Value} {os : List DOp} (k : Nat), OpsF G w vs os → OpsF G w (vs.take k) (os.take k)
  | [], [], k, _ => by simp [OpsF]
  | _ :: _, _ :: _, 0, _ => by simp [OpsF]
  | _ :: _, _ :: _, k + 1, ⟨h1, h2⟩ => ⟨h1, OpsF.take k h2⟩
end Go.Proofs.YtienelpepioggaaGreat

/- The disk: Fork. -/
namespace Go.Proofs.YtienelpepioggaaGreat
open Go
set_option linter.unusedSimpArgs false
open Go.RowKit (intOf)
theorem agg4_cells {x y z u : Value} (hx : isCell x = true) (hy : isCell y = true) (hz : isCell z = true) (hu : isCell u = true) : (Value.agg #[x, y, z, u]).cells = #[x, y, z, u] := by
  simp [Value.cells, isCell_cells hx, isCell_cells hy, isCell_cells hz, isCell_cells hu]
/-- The entries of a new map: those of the old one that have been seen, without room. -/
def Forked (es : List MapEntry) (seen : List Nat) (es2 : List MapEntry) : Prop :=
  (∀ z ∈ es2, ∃ y ∈ es, y.born ∈ seen ∧ z.key = y.key ∧ ∃ b n c, y.val = .slice (some ⟨b, 0, none⟩) n c ∧ z.val = .slice (some ⟨b, 0, none⟩) n n) ∧ ∀ y ∈ es, y.born ∈ seen → ∃ z ∈ es2, z.key = y.key
theorem slcAll0 {b n c : Nat} : slcF 1 (.slice (some ⟨b, 0, none⟩) n c) none (some (.int .i64 n)) (some (.int .i64 n)) = some (.slice (some ⟨b, 0, none⟩) n n) ∨ c < n := by
  by_cases h : c < n
  · exact .inr h
  · left
    simp only [slcF, slcV, bndV]
    rw [if_pos ⟨by omega, by omega⟩]
    simp only []
    rw [if_pos ⟨by omega, by omega⟩]
    simp [add_lit]
theorem MapOk.uniq {es : List MapEntry} {clk : Nat} (h : MapOk es clk) {y z : MapEntry} (hy : y ∈ es) (hz : z ∈ es) (hk : y.key = z.key) : y = z := by
  obtain ⟨i, hi, rfl⟩ := List.getElem_of_mem hy
  obtain ⟨j, hj, rfl⟩ := List.getElem_of_mem hz
  have hp := List.pairwise_iff_getElem.1 h.keys
  rcases Nat.lt_trichotomy i j with hlt | heq | hlt
  · exact absurd hk (hp i j hi hj hlt)
  · subst heq; rfl
  · exact absurd hk.symm (hp j i hj hi hlt)
theorem MapOk.uniqB {es : List MapEntry} {clk : Nat} (h : MapOk es clk) {y z : MapEntry} (hy : y ∈ es) (hz : z ∈ es) (hk : y.born = z.born) : y = z := by
  obtain ⟨i, hi, rfl⟩ := List.getElem_of_mem hy
  obtain ⟨j, hj, rfl⟩ := List.getElem_of_mem hz
  have hp := List.pairwise_iff_getElem.1 h.born
  rcases Nat.lt_trichotomy i j with hlt | heq | hlt
  · exact absurd hk (hp i j hi hj hlt)
  · subst heq; rfl
  · exact absurd hk.symm (hp j i hj hi hlt)
theorem MapOk.push {es : Array MapEntry} {clk : Nat} {n : Int} {v : Value} (h : MapOk es.toList clk) (hn : ∀ y ∈ es.toList, y.key ≠ .int .i64 n) : MapOk (es.push ⟨.int .i64 n, v, clk⟩).toList (clk + 1) := by
  refine ⟨?_, ?_, ?_⟩
  · rw [Array.toList_push, List.pairwise_append]
    refine ⟨h.keys, by simp, fun a ha c hc => ?_⟩
    simp at hc; subst hc; exact hn a ha
  · rw [Array.toList_push, List.pairwise_append]
    refine ⟨h.born, by simp, fun a ha c hc => ?_⟩
    simp at hc; subst hc; have := h.clk a ha; simp only; omega
  · intro z hz
    rw [Array.toList_push, List.mem_append] at hz
    rcases hz with hz | hz
    · have := h.clk z hz; omega
    · simp at hz; subst hz; simp
theorem Forked.push {es : List MapEntry} {seen : List Nat} {es2 : Array MapEntry} {y : MapEntry} {n : Nat} {b len c clk clk0 : Nat} (hok : MapOk es clk0) (h : Forked es seen es2.toList) (hy : y ∈ es) (hk : y.key = .int .i64 n) (hv : y.val = .slice (some ⟨b, 0, none⟩) len c) :
    Forked es (seen ++ [y.born]) (es2.push ⟨.int .i64 n, .slice (some ⟨b, 0, none⟩) len len, clk⟩).toList := by
  refine ⟨fun z hz => ?_, fun x hx hxs => ?_⟩
  · rw [Array.toList_push, List.mem_append] at hz
    rcases hz with hz | hz
    · obtain ⟨y', h1, h2, h3⟩ := h.1 z hz
      exact ⟨y', h1, by simp [h2], h3⟩
    · simp at hz; subst hz
      exact ⟨y, hy, by simp, hk.symm, b, len, c, hv, rfl⟩
  · rw [List.mem_append] at hxs
    rcases hxs with hxs | hxs
    · obtain ⟨z, hz, hzk⟩ := h.2 x hx hxs
      exact ⟨z, by rw [Array.toList_push, List.mem_append]; exact .inl hz, hzk⟩
    · have hxy := hok.uniqB hx hy (by simpa using hxs)
      subst hxy
      exact ⟨_, by rw [Array.toList_push, List.mem_append]; exact .inr (List.mem_singleton.2 rfl), hk.symm⟩
theorem HasF.tight {G : Gh} {w : World} {b n c : Nat} {vs : List Value} (h : HasF G w (.slice (some ⟨b, 0, none⟩) n c) vs) : HasF G w (.slice (some ⟨b, 0, none⟩) n n) vs := by
  obtain ⟨⟨b', o', n', c', hv, h1, h2, h3⟩ | ⟨_, h⟩, hf⟩ := h
  · cases hv
    exact ⟨.inl ⟨b, 0, n, n, rfl, h1, Nat.le_refl _, h3⟩, fun b'' o'' l'' c'' hv hn => by cases hv; exact hf b 0 n c rfl hn⟩
  · cases h
theorem fork_end {G : Gh} {κ κ' : Nat} {w w' : World} {q mn clk clk2 : Nat} {D : Dsk} {vf vl u : Value} {ts : List Value} {es es2 : Array MapEntry} {seen : List Nat} (hok : D.Ok) (hl : D.ops.length ≤ 1000000) (h1 : RowsAt G w vf D.first) (h2 : OpsAt G w vl D.ops)
    (h6 : RowsF G w ts D.safe) (hall : ∀ e ∈ es.toList, ∃ n : Nat, e.key = .int .i64 n ∧ WaitV G κ w e.val (D.wait n)) (hhas : ∀ n, D.wait n ≠ [] → ∃ e ∈ es.toList, e.key = .int .i64 (n : Nat)) (hmok : MapOk es.toList clk) (hg : Grow w w')
    (hb : w'.heap[q]? = some (.cells #[vf, vl, u, .map (some mn)] 111 (0, 0))) (hown : w'.ownsRow w.heap.size 46 1 u ts.length ts) (hm : w'.heap[mn]? = some (.map es2 clk2)) (hok2 : MapOk es2.toList clk2) (hfk : Forked es.toList seen es2.toList)
    (hend : ∀ y ∈ es.toList, y.born ∈ seen) (hq : w.heap.size ≤ q) (hmn : w.heap.size ≤ mn) :
    DiskAt (G.upto w.heap.size (fun _ => κ') (fun _ => 0)) κ' w' q D ∧ Ext0 G w (G.upto w.heap.size (fun _ => κ') (fun _ => 0)) w' := by
  have hx : Ext0 G w (G.upto w.heap.size (fun _ => κ') (fun _ => 0)) w' := .upto hg _ _
  have hno : ∀ b, w.heap.size ≤ b → (G.upto w.heap.size (fun _ => κ') (fun _ => 0)).own b = κ' ∧ (G.upto w.heap.size (fun _ => κ') (fun _ => 0)).fix b = 0 := fun b hb => by simp [Gh.upto, Nat.not_lt.2 hb]
  have hsl := D.safe_length
  have htl := h6.length
  have hsome := hok.some
  refine ⟨⟨hok, hl, vf, vl, u, mn, hb, (hno q hq).1, (hno q hq).2, h1.ext hx, h2.ext hx, ?_, es2, clk2, hm, (hno mn hmn).1, hok2, fun z hz => ?_, fun n hn => ?_, ?_⟩, hx⟩
  · obtain ⟨_, ⟨hn, hz⟩ | ⟨g, cap, cur, hu, hB, _⟩⟩ := id hown
    · omega
    · exact ⟨ts, g, by rw [hu]; rfl, by rw [← htl]; exact own_base hown (Nat.zero_le _), h6.ext hx, (hno g hB).1, (hno g hB).2⟩
  · obtain ⟨y, hy, _, hzk, b, n', c, hyv, hzv⟩ := hfk.1 z hz
    obtain ⟨n, hyk, us, b', c', hyv', hu1, hu2, hne, _⟩ := hall y hy
    rw [hyv] at hyv'; cases hyv'
    rw [hyv] at hu1
    exact ⟨n, hzk.trans hyk, us, b, _, hzv, (by rw [hzv]; exact hu1.tight.ext hx), hu2.ext hx, hne, fun h => by omega⟩
  · obtain ⟨y, hy, hyk⟩ := hhas n hn
    obtain ⟨z, hz, hzk⟩ := hfk.2 y hy (hend y hy)
    exact ⟨z, hz, hzk.trans hyk⟩
  · refine hok2.keys.imp_of_mem (fun {a c} ha _ _ k hk => ?_)
    obtain ⟨_, _, _, _, b, n', c', _, hzv⟩ := hfk.1 a ha
    rw [hzv] at hk
    simp [spare] at hk
set_option maxHeartbeats 1600000 in
theorem fork_spec {G : Gh} {κ : Nat} {w : World} {p : Nat} {D : Dsk} (κ' : Nat) (h : DiskAt G κ w p D) :
    Calls Tryz.prog 17 #[.pointer (some ⟨p, 0, none⟩)] w (Ret fun v w' => ∃ q G', v = .pointer (some ⟨q, 0, none⟩) ∧ w.heap.size ≤ q ∧ DiskAt G' κ' w' q D ∧ Ext0 G w G' w') := by
  obtain ⟨hok, hl, vf, vl, vs, m, hp, ho, hf, h1, h2, ⟨ts, sb, h4, h5, h6, h7, h8⟩, ⟨es, clk, hes, hom, hmok, hall, hhas, hsp⟩⟩ := h
  have hpl := (Array.getElem?_eq_some_iff.1 hp).1
  have hml := (Array.getElem?_eq_some_iff.1 hes).1
  have hsl := D.safe_length
  have htl := h6.length
  have hmost := hok.most
  have hsome := hok.some
  have hvf : isCell vf = true := by obtain ⟨_, h, _⟩ := h1; exact h.1.isCell
  have hvl : isCell vl = true := by obtain ⟨_, h, _⟩ := h2; exact h.1.isCell
  have hunder : Tryz.prog.underlying 106 = some (.map 3 53) := by kernel_rfl
  have hint : Tryz.prog.underlying 3 = some (.int .i64) := by kernel_rfl
  apply enter17
  apply R_in
  simp (maxSteps := 600000) (disch := omega) only [F17, ↓sy1, sy2, sy3, readOK, sy5, sy6, Nat.reduceEqDiff, ↓reduceIte, sy7, sy8, sy9, sya, oneOf, syb, syc, Nat.reduceAdd, Nat.reduceMul, syd, sye, syf, syg, syh, reduceCtorEq]
  refine draw17_0 (fun _ => False) ?_
  have hgd : Grow w w.drew := (Keep.refl _ _).drew
  generalize w.drew = w1 at hgd ⊢
  have hp1 := hgd.gheap hp
  have hc0 : w1.cell? ⟨p, 0, none⟩ = some vf := by rw [cell_block hp1]; rfl
  have hc1 : w1.cell? ⟨p, 1, none⟩ = some vl := by rw [cell_block hp1]; rfl
  have hc2 : w1.cell? ⟨p, 2, none⟩ = some vs := by rw [cell_block hp1]; rfl
  have hgm : Grow w1 (w1.alloc (.map #[] 0)) := (Keep.refl _ _).alloc _
  have hbm := heap_alloc_new w1 (.map #[] 0)
  have hsm : (w1.alloc (.map #[] 0)).heap.size = w1.heap.size + 1 := by simp
  generalize hwm : w1.alloc (.map #[] 0) = wm at hgm hbm hsm
  simp (maxSteps := 600000) (disch := omega) only [PL17_0, ↓sy1, sy2, sy3, readOK, sy5, sy6, Nat.reduceEqDiff, ↓reduceIte, sy7, sy8, sy9, sya, oneOf, syb, syc, Nat.reduceAdd, Nat.reduceMul, syd, sye, syf, syg, syh, reduceCtorEq, hc0, hc1, hc2, hwm]
  refine ⟨?_, hgm, ?_⟩
  · refine call0 (slicesClone_spec vs ts w1 ((Has.own h5).grow hgd) h6.cell (by omega)) ?_
    rintro u w2 ⟨hu, hg2⟩
    have huc := (Has.own hu).isCell
    have hg3 : Grow w2 (w2.alloc (.map #[] 0)) := (Keep.refl _ _).alloc _
    have hb3 := heap_alloc_new w2 (.map #[] 0)
    have hs3 : (w2.alloc (.map #[] 0)).heap.size = w2.heap.size + 1 := by simp
    generalize hw3 : w2.alloc (.map #[] 0) = w3 at hg3 hb3 hs3
    have hg4 : Grow w3 (w3.alloc (.cells #[vf, vl, u, .map (some w2.heap.size)] 111)) := (Keep.refl _ _).alloc _
    have hb4 := heap_alloc_new w3 (.cells #[vf, vl, u, .map (some w2.heap.size)] 111)
    have hs4 : (w3.alloc (.cells #[vf, vl, u, .map (some w2.heap.size)] 111)).heap.size = w3.heap.size + 1 := by simp
    generalize hw4 : w3.alloc (.cells #[vf, vl, u, .map (some w2.heap.size)] 111) = w4 at hg4 hb4 hs4
    have hp4 := (((hgd.trans hg2).trans hg3).trans hg4).gheap hp
    have hc4 : w4.cell? ⟨p, 3, none⟩ = some (.map (some m)) := by rw [cell_block hp4]; rfl
    simp (maxSteps := 600000) (disch := omega) only [↓sy1, sy2, sy3, readOK, sy5, sy6, Nat.reduceEqDiff, ↓reduceIte, sy7, sy8, sy9, sya, oneOf, syb, syc, Nat.reduceAdd, Nat.reduceMul, syd, sye, syf, syg, syh, reduceCtorEq, hw3, fill_gen, fillF_2 huc (show isCell (.map (some w2.heap.size)) = true from rfl), fillF_fork hvf hvl, Option.map_some, agg4_cells hvf hvl huc (show isCell (.map (some w2.heap.size)) = true from rfl), hw4, hc4]
    have hgall : Grow w w4 := ((hgd.trans hg2).trans hg3).trans hg4
    have hown : w4.ownsRow w.heap.size 46 1 u ts.length ts := own_base (own_grow hu (hg3.trans hg4)) hgd.size
    have hmn := hg4.gheap hb3
    have hq1 : w.heap.size ≤ w3.heap.size := ((hgd.trans hg2).trans hg3).size
    have hmn1 : w.heap.size ≤ w2.heap.size := (hgd.trans hg2).size
    have hqm : w3.heap.size ≠ w2.heap.size := by omega
    generalize w3.heap.size = q at hb4 hq1 hqm ⊢
    generalize w2.heap.size = mn at hb4 hmn hmn1 hqm ⊢
    refine ⟨hg2, hg2.trans hg3, ?_⟩
    refine range_rule (m := m) (by simp only [upd_at, Nat.reduceEqDiff, reduceIte, ev_tmp, ev_const, List.map_cons, List.map_nil]) hunder (hgall.gheap hes) ?_
    have hg45 : Grow w4 (w4.alloc (.mapIter (some m) clk #[] clk)) := (Keep.refl _ _).alloc _
    have hr5 := heap_alloc_new w4 (.mapIter (some m) clk #[] clk)
    have hqlt : q < w4.heap.size := (Array.getElem?_eq_some_iff.1 hb4).1
    have hmnlt : mn < w4.heap.size := (Array.getElem?_eq_some_iff.1 hmn).1
    have hrge := hgall.size
    generalize w4.alloc (.mapIter (some m) clk #[] clk) = w5 at hg45 hr5 ⊢
    generalize w4.heap.size = r at hr5 hqlt hmnlt hrge ⊢
    have hgr := hgall.trans hg45
    have hb5 := hg45.gheap hb4
    have hmn5 := hg45.gheap hmn
    have hown5 := own_grow hown hg45
    simp (maxSteps := 600000) (disch := omega) only [↓sy1, sy2, sy3, readOK, sy5, sy6, Nat.reduceEqDiff, ↓reduceIte, sy7, sy8, sy9, sya, oneOf, syb, syc, Nat.reduceAdd, Nat.reduceMul, syd, sye, syf, syg, syh, reduceCtorEq]
    refine mloop_rule (r := r) (m := m) (clk := clk) (es := es) (fun seen e w' => e 3 = .pointer (some ⟨q, 0, none⟩) ∧ e 31 = .pointer (some ⟨r, 0, none⟩) ∧ Grow w w' ∧ w'.heap[q]? = some (.cells #[vf, vl, u, .map (some mn)] 111 (0, 0)) ∧
        w'.ownsRow w.heap.size 46 1 u ts.length ts ∧ ∃ es2 clk2, w'.heap[mn]? = some (.map es2 clk2) ∧ MapOk es2.toList clk2 ∧ Forked es.toList seen es2.toList)
      hr5 ⟨by simp [upd, updO, ev], by simp [upd, updO, ev], hgr, hb5, hown5, #[], 0, hmn5, ⟨by simp, by simp, by simp⟩, by simp [Forked]⟩ ?_
    rintro seen e w6 hr6 ⟨e3, e31, hg6, hb6, hown6, es2, clk2, hm6, hok2, hfk⟩
    simp (maxSteps := 600000) (disch := omega) only [F17_L0, ↓sy1, sy2, sy3, readOK, sy5, sy6, Nat.reduceEqDiff, ↓reduceIte, sy7, sy8, sy9, sya, oneOf, syb, syc, Nat.reduceAdd, Nat.reduceMul, syd, sye, syf, syg, syh, reduceCtorEq]
    refine next_rule (by simp only [ev_tmp, e31]) hr6 (hg6.gheap hes) hmok (fun hend => ?_) (fun y hy hyn w7 hk7 hr7 => ?_)
    · simp (maxSteps := 600000) (disch := omega) only [↓sy1, sy2, sy3, readOK, sy5, sy6, Nat.reduceEqDiff, ↓reduceIte, sy7, sy8, sy9, sya, oneOf, syb, syc, Nat.reduceAdd, Nat.reduceMul, syd, sye, syf, syg, syh, reduceCtorEq, e3, e31]
      exact R_out ⟨q, _, rfl, hq1, fork_end hok hl h1 h2 h6 hall hhas hmok hg6 hb6 hown6 hm6 hok2 hfk hend hq1 hmn1⟩
    · obtain ⟨n, hyk, us, b, c, hyv, hu1, hu2, hne, _⟩ := hall y hy
      have hcap : (D.wait n).length ≤ c := by
        obtain ⟨b', o', n', c', hv', _, hle, _⟩ | ⟨_, h⟩ := hu1.1
        · rw [hyv] at hv'; cases hv'; exact hle
        · rw [hyv] at h; cases h
      have hwo := D.wait_length n
      have hslc : slcV 1 (some ⟨b, 0, none⟩) (D.wait n).length c none (some (.int .i64 ((D.wait n).length : Int))) (some (.int .i64 ((D.wait n).length : Int))) = some (.slice (some ⟨b, 0, none⟩) (D.wait n).length (D.wait n).length) := by
        rcases slcAll0 (b := b) (n := (D.wait n).length) (c := c) with h | h
        · exact h
        · omega
      have hg7 : Grow w w7 := hg6.then hk7 (fun b hb h => by omega)
      have hb7 := hk7.heap hb6 (by omega)
      have hm7 := hk7.heap hm6 (by omega)
      have hown7 := own_keep hown6 hk7 (fun g hg hgr => by
        obtain ⟨_, ⟨h, _⟩ | ⟨g', cap, cur, hvv, _, hh, _⟩⟩ := hown6
        · rw [h] at hg; cases hg
        · rw [hvv] at hg; cases hg
          have hgr' : g' = r := hgr
          rw [hgr', hr6] at hh; cases hh)
      simp (maxSteps := 600000) (disch := omega) only [↓sy1, sy2, sy3, readOK, sy5, sy6, Nat.reduceEqDiff, ↓reduceIte, sy7, sy8, sy9, sya, oneOf, syb, syc, Nat.reduceAdd, Nat.reduceMul, syd, sye, syf, syg, syh, reduceCtorEq]
      refine entry_rule (by simp only [upd_at, Nat.reduceEqDiff, reduceIte, ev_tmp, ev_const, List.map_cons, List.map_nil, e31]) hr7 (hg7.gheap hes) hmok hy ?_
      simp (maxSteps := 600000) (disch := omega) only [↓sy1, sy2, sy3, readOK, sy5, sy6, Nat.reduceEqDiff, ↓reduceIte, sy7, sy8, sy9, sya, oneOf, syb, syc, Nat.reduceAdd, Nat.reduceMul, syd, sye, syf, syg, syh, reduceCtorEq, hyk]
      refine draw17_1 (fun _ => False) ?_
      have hgd7 : Grow w7 w7.drew := (Keep.refl _ _).drew
      have hg8 := hg7.trans hgd7
      have hb8 := hgd7.gheap hb7
      have hm8 := hgd7.gheap hm7
      have hr8 := hgd7.gheap hr7
      have hown8 := own_grow hown7 hgd7
      generalize w7.drew = w8 at hg8 hb8 hm8 hr8 hown8 ⊢
      have hc8 : w8.cell? ⟨q, 3, none⟩ = some (.map (some mn)) := by rw [cell_block hb8]; rfl
      simp (maxSteps := 600000) (disch := omega) only [PL17_1, ↓sy1, sy2, sy3, readOK, sy5, sy6, Nat.reduceEqDiff, ↓reduceIte, sy7, sy8, sy9, sya, oneOf, syb, syc, Nat.reduceAdd, Nat.reduceMul, syd, sye, syf, syg, syh, reduceCtorEq, e3, e31, hc8, hyv, hslc]
      have hki : IntKeyed .i64 es2.toList := fun z hz => by
        obtain ⟨y', hy', _, hzk, _⟩ := hfk.1 z hz
        obtain ⟨n', hn', _⟩ := hall y' hy'
        exact ⟨_, hzk.trans hn'⟩
      refine put_rule (m := mn) (n := (n : Int)) (v := .slice (some ⟨b, 0, none⟩) (D.wait n).length (D.wait n).length) (by simp only [upd_at, Nat.reduceEqDiff, reduceIte, ev_tmp, ev_const, List.map_cons, List.map_nil]) (by simp only [upd_at, Nat.reduceEqDiff, reduceIte, ev_tmp, ev_const, List.map_cons, List.map_nil]) (by simp only [upd_at, Nat.reduceEqDiff, reduceIte, ev_tmp, ev_const, List.map_cons, List.map_nil]) hunder hint hm8 hki (fun hnone w9 hk9 hm9 => ?_) (fun j z hz hzk w9 hk9 hm9 => ?_)
      · simp (maxSteps := 600000) (disch := omega) only [↓sy1, sy2, sy3, readOK, sy5, sy6, Nat.reduceEqDiff, ↓reduceIte, sy7, sy8, sy9, sya, oneOf, syb, syc, Nat.reduceAdd, Nat.reduceMul, syd, sye, syf, syg, syh, reduceCtorEq]
        have hown9 := own_keep hown8 hk9 (fun g hg hgr => by
          obtain ⟨_, ⟨h, _⟩ | ⟨g', cap, cur, hvv, _, hh, _⟩⟩ := hown8
          · rw [h] at hg; cases hg
          · rw [hvv] at hg; cases hg
            have hgr' : g' = mn := hgr
            rw [hgr', hm8] at hh; cases hh)
        refine R_out (MStep.mk hr6 hy hyn (hk9.heap hr8 (by omega)) ⟨by simp [upd, updO, e3], by simp [upd, updO, e31], hg8.then hk9 (fun b hb h => by omega), hk9.heap hb8 (by omega), hown9, _, _, hm9, hok2.push hnone, hfk.push hmok hy hyk hyv⟩)
      · exfalso
        obtain ⟨y', hy', hys, hzy, _⟩ := hfk.1 z (List.mem_of_getElem? hz)
        have := hmok.uniq hy hy' (by rw [hyk, ← hzk, hzy])
        subst this; exact hyn hys
  · refine call0 (slicesClone_spec vs ts wm ((Has.own h5).grow (hgd.trans hgm)) h6.cell (by omega)) ?_
    rintro u w2 ⟨hu, hg2⟩
    have huc := (Has.own hu).isCell
    have hg4 : Grow w2 (w2.alloc (.cells #[vf, vl, u, .map (some w1.heap.size)] 111)) := (Keep.refl _ _).alloc _
    have hb4 := heap_alloc_new w2 (.cells #[vf, vl, u, .map (some w1.heap.size)] 111)
    have hs4 : (w2.alloc (.cells #[vf, vl, u, .map (some w1.heap.size)] 111)).heap.size = w2.heap.size + 1 := by simp
    generalize hw4 : w2.alloc (.cells #[vf, vl, u, .map (some w1.heap.size)] 111) = w4 at hg4 hb4 hs4
    have hp4 := (((hgd.trans hgm).trans hg2).trans hg4).gheap hp
    have hc4 : w4.cell? ⟨p, 3, none⟩ = some (.map (some m)) := by rw [cell_block hp4]; rfl
    simp (maxSteps := 600000) (disch := omega) only [↓sy1, sy2, sy3, readOK, sy5, sy6, Nat.reduceEqDiff, ↓reduceIte, sy7, sy8, sy9, sya, oneOf, syb, syc, Nat.reduceAdd, Nat.reduceMul, syd, sye, syf, syg, syh, reduceCtorEq, fill_gen, fillF_2 huc (show isCell (.map (some w1.heap.size)) = true from rfl), fillF_fork hvf hvl, Option.map_some, agg4_cells hvf hvl huc (show isCell (.map (some w1.heap.size)) = true from rfl), hw4, hc4]
    have hgall : Grow w w4 := ((hgd.trans hgm).trans hg2).trans hg4
    have hown : w4.ownsRow w.heap.size 46 1 u ts.length ts := own_base (own_grow hu hg4) (hgd.trans hgm).size
    have hmn := (hg2.trans hg4).gheap hbm
    have hq1 : w.heap.size ≤ w2.heap.size := ((hgd.trans hgm).trans hg2).size
    have hmn1 : w.heap.size ≤ w1.heap.size := hgd.size
    have hqm : w2.heap.size ≠ w1.heap.size := by have := hg2.size; omega
    generalize w2.heap.size = q at hb4 hq1 hqm ⊢
    generalize w1.heap.size = mn at hb4 hmn hmn1 hqm ⊢
    refine ⟨hgm.trans hg2, ?_⟩
    refine range_rule (m := m) (by simp only [upd_at, Nat.reduceEqDiff, reduceIte, ev_tmp, ev_const, List.map_cons, List.map_nil]) hunder (hgall.gheap hes) ?_
    have hg45 : Grow w4 (w4.alloc (.mapIter (some m) clk #[] clk)) := (Keep.refl _ _).alloc _
    have hr5 := heap_alloc_new w4 (.mapIter (some m) clk #[] clk)
    have hqlt : q < w4.heap.size := (Array.getElem?_eq_some_iff.1 hb4).1
    have hmnlt : mn < w4.heap.size := (Array.getElem?_eq_some_iff.1 hmn).1
    have hrge := hgall.size
    generalize w4.alloc (.mapIter (some m) clk #[] clk) = w5 at hg45 hr5 ⊢
    generalize w4.heap.size = r at hr5 hqlt hmnlt hrge ⊢
    have hgr := hgall.trans hg45
    have hb5 := hg45.gheap hb4
    have hmn5 := hg45.gheap hmn
    have hown5 := own_grow hown hg45
    simp (maxSteps := 600000) (disch := omega) only [↓sy1, sy2, sy3, readOK, sy5, sy6, Nat.reduceEqDiff, ↓reduceIte, sy7, sy8, sy9, sya, oneOf, syb, syc, Nat.reduceAdd, Nat.reduceMul, syd, sye, syf, syg, syh, reduceCtorEq]
    refine mloop_rule (r := r) (m := m) (clk := clk) (es := es) (fun seen e w' => e 3 = .pointer (some ⟨q, 0, none⟩) ∧ e 31 = .pointer (some ⟨r, 0, none⟩) ∧ Grow w w' ∧ w'.heap[q]? = some (.cells #[vf, vl, u, .map (some mn)] 111 (0, 0)) ∧
        w'.ownsRow w.heap.size 46 1 u ts.length ts ∧ ∃ es2 clk2, w'.heap[mn]? = some (.map es2 clk2) ∧ MapOk es2.toList clk2 ∧ Forked es.toList seen es2.toList)
      hr5 ⟨by simp [upd, updO, ev], by simp [upd, updO, ev], hgr, hb5, hown5, #[], 0, hmn5, ⟨by simp, by simp, by simp⟩, by simp [Forked]⟩ ?_
    rintro seen e w6 hr6 ⟨e3, e31, hg6, hb6, hown6, es2, clk2, hm6, hok2, hfk⟩
    simp (maxSteps := 600000) (disch := omega) only [F17_L0, ↓sy1, sy2, sy3, readOK, sy5, sy6, Nat.reduceEqDiff, ↓reduceIte, sy7, sy8, sy9, sya, oneOf, syb, syc, Nat.reduceAdd, Nat.reduceMul, syd, sye, syf, syg, syh, reduceCtorEq]
    refine next_rule (by simp only [ev_tmp, e31]) hr6 (hg6.gheap hes) hmok (fun hend => ?_) (fun y hy hyn w7 hk7 hr7 => ?_)
    · simp (maxSteps := 600000) (disch := omega) only [↓sy1, sy2, sy3, readOK, sy5, sy6, Nat.reduceEqDiff, ↓reduceIte, sy7, sy8, sy9, sya, oneOf, syb, syc, Nat.reduceAdd, Nat.reduceMul, syd, sye, syf, syg, syh, reduceCtorEq, e3, e31]
      exact R_out ⟨q, _, rfl, hq1, fork_end hok hl h1 h2 h6 hall hhas hmok hg6 hb6 hown6 hm6 hok2 hfk hend hq1 hmn1⟩
    · obtain ⟨n, hyk, us, b, c, hyv, hu1, hu2, hne, _⟩ := hall y hy
      have hcap : (D.wait n).length ≤ c := by
        obtain ⟨b', o', n', c', hv', _, hle, _⟩ | ⟨_, h⟩ := hu1.1
        · rw [hyv] at hv'; cases hv'; exact hle
        · rw [hyv] at h; cases h
      have hwo := D.wait_length n
      have hslc : slcV 1 (some ⟨b, 0, none⟩) (D.wait n).length c none (some (.int .i64 ((D.wait n).length : Int))) (some (.int .i64 ((D.wait n).length : Int))) = some (.slice (some ⟨b, 0, none⟩) (D.wait n).length (D.wait n).length) := by
        rcases slcAll0 (b := b) (n := (D.wait n).length) (c := c) with h | h
        · exact h
        · omega
      have hg7 : Grow w w7 := hg6.then hk7 (fun b hb h => by omega)
      have hb7 := hk7.heap hb6 (by omega)
      have hm7 := hk7.heap hm6 (by omega)
      have hown7 := own_keep hown6 hk7 (fun g hg hgr => by
        obtain ⟨_, ⟨h, _⟩ | ⟨g', cap, cur, hvv, _, hh, _⟩⟩ := hown6
        · rw [h] at hg; cases hg
        · rw [hvv] at hg; cases hg
          have hgr' : g' = r := hgr
          rw [hgr', hr6] at hh; cases hh)
      simp (maxSteps := 600000) (disch := omega) only [↓sy1, sy2, sy3, readOK, sy5, sy6, Nat.reduceEqDiff, ↓reduceIte, sy7, sy8, sy9, sya, oneOf, syb, syc, Nat.reduceAdd, Nat.reduceMul, syd, sye, syf, syg, syh, reduceCtorEq]
      refine entry_rule (by simp only [upd_at, Nat.reduceEqDiff, reduceIte, ev_tmp, ev_const, List.map_cons, List.map_nil, e31]) hr7 (hg7.gheap hes) hmok hy ?_
      simp (maxSteps := 600000) (disch := omega) only [↓sy1, sy2, sy3, readOK, sy5, sy6, Nat.reduceEqDiff, ↓reduceIte, sy7, sy8, sy9, sya, oneOf, syb, syc, Nat.reduceAdd, Nat.reduceMul, syd, sye, syf, syg, syh, reduceCtorEq, hyk]
      refine draw17_1 (fun _ => False) ?_
      have hgd7 : Grow w7 w7.drew := (Keep.refl _ _).drew
      have hg8 := hg7.trans hgd7
      have hb8 := hgd7.gheap hb7
      have hm8 := hgd7.gheap hm7
      have hr8 := hgd7.gheap hr7
      have hown8 := own_grow hown7 hgd7
      generalize w7.drew = w8 at hg8 hb8 hm8 hr8 hown8 ⊢
      have hc8 : w8.cell? ⟨q, 3, none⟩ = some (.map (some mn)) := by rw [cell_block hb8]; rfl
      simp (maxSteps := 600000) (disch := omega) only [PL17_1, ↓sy1, sy2, sy3, readOK, sy5, sy6, Nat.reduceEqDiff, ↓reduceIte, sy7, sy8, sy9, sya, oneOf, syb, syc, Nat.reduceAdd, Nat.reduceMul, syd, sye, syf, syg, syh, reduceCtorEq, e3, e31, hc8, hyv, hslc]
      have hki : IntKeyed .i64 es2.toList := fun z hz => by
        obtain ⟨y', hy', _, hzk, _⟩ := hfk.1 z hz
        obtain ⟨n', hn', _⟩ := hall y' hy'
        exact ⟨_, hzk.trans hn'⟩
      refine put_rule (m := mn) (n := (n : Int)) (v := .slice (some ⟨b, 0, none⟩) (D.wait n).length (D.wait n).length) (by simp only [upd_at, Nat.reduceEqDiff, reduceIte, ev_tmp, ev_const, List.map_cons, List.map_nil]) (by simp only [upd_at, Nat.reduceEqDiff, reduceIte, ev_tmp, ev_const, List.map_cons, List.map_nil]) (by simp only [upd_at, Nat.reduceEqDiff, reduceIte, ev_tmp, ev_const, List.map_cons, List.map_nil]) hunder hint hm8 hki (fun hnone w9 hk9 hm9 => ?_) (fun j z hz hzk w9 hk9 hm9 => ?_)
      · simp (maxSteps := 600000) (disch := omega) only [↓sy1, sy2, sy3, readOK, sy5, sy6, Nat.reduceEqDiff, ↓reduceIte, sy7, sy8, sy9, sya, oneOf, syb, syc, Nat.reduceAdd, Nat.reduceMul, syd, sye, syf, syg, syh, reduceCtorEq]
        have hown9 := own_keep hown8 hk9 (fun g hg hgr => by
          obtain ⟨_, ⟨h, _⟩ | ⟨g', cap, cur, hvv, _, hh, _⟩⟩ := hown8
          · rw [h] at hg; cases hg
          · rw [hvv] at hg; cases hg
            have hgr' : g' = mn := hgr
            rw [hgr', hm8] at hh; cases hh)
        refine R_out (MStep.mk hr6 hy hyn (hk9.heap hr8 (by omega)) ⟨by simp [upd, updO, e3], by simp [upd, updO, e31], hg8.then hk9 (fun b hb h => by omega), hk9.heap hb8 (by omega), hown9, _, _, hm9, hok2.push hnone, hfk.push hmok hy hyk hyv⟩)
      · exfalso
        obtain ⟨y', hy', hys, hzy, _⟩ := hfk.1 z (List.mem_of_getElem? hz)
        have := hmok.uniq hy hy' (by rw [hyk, ← hzk, hzy])
        subst this; exact hyn hys
end Go.Proofs.YtienelpepioggaaGreat

/- What a log tells: pages, room, a page, its disk. -/
namespace Go.Proofs.YtienelpepioggaaGreat
open Go
set_option linter.unusedSimpArgs false
open Go.RowKit (intOf)
section rules
variable {P : Program} {k : Kont} {e : Env} {w : World} {l : List GOp} {d : Option Nat}
theorem min_rule {x y : Operand} {ts : Array TypeId} {ty : TypeId} {a b : Int} (hx : ev e x = .int .i64 a) (hy : ev e y = .int .i64 b) (h : R (symOps P l k (updO e d (.int .i64 (if b < a then b else a))) w)) :
    R (symOps P (⟨d, .hard (H (.call { callee := .builtin .min, args := #[x, y], argTypes := ts }) ty), none⟩ :: l) k e w) :=
  hard_rule (run_builtin (vs := [.int .i64 a, .int .i64 b]) (by simp [hx, hy]) (fun cs => by simp only [builtin, run_min_int2, Sem.run_bind, Result.andThen_ok]; rfl)) h
end rules
theorem LogAt.cells {G : Gh} {κ : Nat} {w : World} {q size came : Nat} {D : Dsk} (h : LogAt G κ w q size came D) :
    ∃ p, DiskAt G κ w p D ∧ ∀ {w'}, Grow w w' → w'.cell? ⟨q, 0, none⟩ = some (.pointer (some ⟨p, 0, none⟩)) ∧ w'.cell? ⟨q, 1, none⟩ = some (.int .i64 size) ∧ w'.cell? ⟨q, 2, none⟩ = some (.int .i64 came) := by
  obtain ⟨hκ, hs1, hs2, ho0, p, hq, hd⟩ := h
  exact ⟨p, hd, fun hg => ⟨by rw [cell_block (hg.gheap hq)]; rfl, by rw [cell_block (hg.gheap hq)]; rfl, by rw [cell_block (hg.gheap hq)]; rfl⟩⟩
theorem pages_spec {G : Gh} {κ : Nat} {w : World} {q size came : Nat} {D : Dsk} (h : LogAt G κ w q size came D) :
    Calls Tryz.prog 21 #[.pointer (some ⟨q, 0, none⟩)] w (Ret fun v w' => v = .int .i64 ((D.first.length - size - 1 : Nat) : Int) ∧ Grow w w') := by
  obtain ⟨p, hd, hc⟩ := h.cells
  have hs2 := h.2.2.1
  have hmost := hd.ok.most
  apply enter21
  apply R_in
  simp (maxSteps := 600000) (disch := omega) only [F21, ↓sy1, sy2, sy3, readOK, sy5, sy6, Nat.reduceEqDiff, ↓reduceIte, sy7, sy8, sy9, sya, oneOf, syb, syc, Nat.reduceAdd, Nat.reduceMul, syd, sye, syf, syg, syh, reduceCtorEq]
  refine draw21_0 (fun _ => False) ?_
  have hgd : Grow w w.drew := (Keep.refl _ _).drew
  generalize w.drew = w1 at hgd ⊢
  simp (maxSteps := 600000) (disch := omega) only [PL21_0, ↓sy1, sy2, sy3, readOK, sy5, sy6, Nat.reduceEqDiff, ↓reduceIte, sy7, sy8, sy9, sya, oneOf, syb, syc, Nat.reduceAdd, Nat.reduceMul, syd, sye, syf, syg, syh, reduceCtorEq, hc hgd]
  refine call0 (sectors_spec (hd.grow hgd)) ?_
  rintro _ w2 ⟨rfl, rfl⟩
  simp (maxSteps := 600000) (disch := omega) only [↓sy1, sy2, sy3, readOK, sy5, sy6, Nat.reduceEqDiff, ↓reduceIte, sy7, sy8, sy9, sya, oneOf, syb, syc, Nat.reduceAdd, Nat.reduceMul, syd, sye, syf, syg, syh, reduceCtorEq]
  refine ⟨Keep.refl _ _, ?_⟩
  exact R_out ⟨by congr 1; omega, hgd⟩
theorem capacity_spec {G : Gh} {κ : Nat} {w : World} {q size came : Nat} {D : Dsk} (h : LogAt G κ w q size came D) :
    Calls Tryz.prog 48 #[.pointer (some ⟨q, 0, none⟩)] w (Ret fun v w' => v = .int .i64 ((min size 100 : Nat) : Int) ∧ w' = w) := by
  obtain ⟨p, hd, hc⟩ := h.cells
  apply enter48
  apply R_in
  simp (maxSteps := 600000) (disch := omega) only [F48, ↓sy1, sy2, sy3, readOK, sy5, sy6, Nat.reduceEqDiff, ↓reduceIte, sy7, sy8, sy9, sya, oneOf, syb, syc, Nat.reduceAdd, Nat.reduceMul, syd, sye, syf, syg, syh, reduceCtorEq, hc (Keep.refl _ _)]
  refine min_rule (a := size) (b := 100) (by simp only [upd_at, Nat.reduceEqDiff, reduceIte, ev_tmp, ev_const, List.map_cons, List.map_nil]) (by simp only [upd_at, Nat.reduceEqDiff, reduceIte, ev_tmp, ev_const, List.map_cons, List.map_nil]) ?_
  simp (maxSteps := 600000) (disch := omega) only [↓sy1, sy2, sy3, readOK, sy5, sy6, Nat.reduceEqDiff, ↓reduceIte, sy7, sy8, sy9, sya, oneOf, syb, syc, Nat.reduceAdd, Nat.reduceMul, syd, sye, syf, syg, syh, reduceCtorEq]
  refine R_out ?_
  have : (if (100 : Int) < (size : Int) then (100 : Int) else (size : Int)) = ((min size 100 : Nat) : Int) := by
    split <;> omega
  first | exact ⟨by rw [this], trivial⟩ | (rw [this])
theorem lread_spec {G : Gh} {κ : Nat} {w : World} {q size came n : Nat} {D : Dsk} (h : LogAt G κ w q size came D) (hn : n < D.first.length - size - 1) :
    Calls Tryz.prog 74 #[.pointer (some ⟨q, 0, none⟩), .int .i64 n] w (Ret fun v w' => ∃ u, v = .tuple #[u, .int .i64 0] ∧ w'.ownsRow w.heap.size 5 1 u 512 (bs (D.image[size + 1 + n]'(by rw [D.image_length]; omega))) ∧ Grow w w') := by
  obtain ⟨p, hd, hc⟩ := h.cells
  have hmost := hd.ok.most
  apply enter74
  apply R_in
  simp (maxSteps := 600000) (disch := omega) only [F74, ↓sy1, sy2, sy3, readOK, sy5, sy6, Nat.reduceEqDiff, ↓reduceIte, sy7, sy8, sy9, sya, oneOf, syb, syc, Nat.reduceAdd, Nat.reduceMul, syd, sye, syf, syg, syh, reduceCtorEq, show ¬ ((n : Int) < 0) from by omega, decide_false]
  refine call0 (pages_spec h) ?_
  rintro _ w1 ⟨rfl, hg1⟩
  simp (maxSteps := 600000) (disch := omega) only [↓sy1, sy2, sy3, readOK, sy5, sy6, Nat.reduceEqDiff, ↓reduceIte, sy7, sy8, sy9, sya, oneOf, syb, syc, Nat.reduceAdd, Nat.reduceMul, syd, sye, syf, syg, syh, reduceCtorEq, show ¬ (((D.first.length - size - 1 : Nat) : Int) ≤ (n : Int)) from by omega, decide_false]
  refine draw74_0 (fun _ => False) ?_
  have hgd : Grow w w1.drew := hg1.drew
  have hsz := hgd.size
  generalize w1.drew = w2 at hgd hsz ⊢
  simp (maxSteps := 600000) (disch := omega) only [PL74_0, ↓sy1, sy2, sy3, readOK, sy5, sy6, Nat.reduceEqDiff, ↓reduceIte, sy7, sy8, sy9, sya, oneOf, syb, syc, Nat.reduceAdd, Nat.reduceMul, syd, sye, syf, syg, syh, reduceCtorEq, hc hgd]
  rw [show (size : Int) + 1 + (n : Int) = ((size + 1 + n : Nat) : Int) from by omega]
  refine call0 (read_spec (hd.grow hgd) (n := size + 1 + n) (by omega)) ?_
  rintro _ w3 ⟨u, rfl, hu, hg3⟩
  simp (maxSteps := 600000) (disch := omega) only [↓sy1, sy2, sy3, readOK, sy5, sy6, Nat.reduceEqDiff, ↓reduceIte, sy7, sy8, sy9, sya, oneOf, syb, syc, Nat.reduceAdd, Nat.reduceMul, syd, sye, syf, syg, syh, reduceCtorEq]
  exact R_out ⟨u, rfl, own_base hu hsz, hgd.trans hg3⟩
end Go.Proofs.YtienelpepioggaaGreat
