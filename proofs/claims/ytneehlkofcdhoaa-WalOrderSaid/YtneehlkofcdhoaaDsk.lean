/- How a disk lies in memory. Ghosts: who owns a block, and how many of its first cells nobody will write any more. -/
import Derived.Test.YtneehlkofcdhoaaPureB
import Derived.Test.YtneehlkofcdhoaaModel
namespace Go.Proofs.Ytneehlkofcdhoaa
open Go

structure Gh where
  own : Nat → Nat
  fix : Nat → Nat
/-- New ghosts for the blocks from B on. -/
def Gh.upto (G : Gh) (B : Nat) (o f : Nat → Nat) : Gh := ⟨fun b => if b < B then G.own b else o b, fun b => if b < B then G.fix b else f b⟩

/-- From (G, w) to (G', w') only blocks of owners in κ have changed, and no cell that is fixed. -/
structure Ext (κ : Nat → Prop) (G : Gh) (w : World) (G' : Gh) (w' : World) : Prop where
  os : w'.os = w.os
  tape : w'.tape = w.tape
  output : w'.output = w.output
  size : w.heap.size ≤ w'.heap.size
  own : ∀ b, b < w.heap.size → G'.own b = G.own b
  fix : ∀ b, b < w.heap.size → G.fix b ≤ G'.fix b
  fixe : ∀ b, b < w.heap.size → ¬ κ (G.own b) → G'.fix b = G.fix b
  blk : ∀ b, b < w.heap.size → ¬ κ (G.own b) → w'.heap[b]? = w.heap[b]?
  pre : ∀ b i v, b < w.heap.size → i < G.fix b → w.cell? ⟨b, i, none⟩ = some v → w'.cell? ⟨b, i, none⟩ = some v
/-- Nobody's blocks have changed. -/
abbrev Ext0 := Ext (fun _ => False)

section
variable {κ κ' : Nat → Prop} {G G' G'' : Gh} {w w' w'' : World}
theorem Ext.refl (κ : Nat → Prop) (G : Gh) (w : World) : Ext κ G w G w := ⟨rfl, rfl, rfl, Nat.le_refl _, fun _ _ => rfl, fun _ _ => Nat.le_refl _, fun _ _ _ => rfl, fun _ _ _ => rfl, fun _ _ _ _ _ h => h⟩
theorem Ext.trans (h : Ext κ G w G' w') (h' : Ext κ G' w' G'' w'') : Ext κ G w G'' w'' := by
  have hs : ∀ b, b < w.heap.size → b < w'.heap.size := fun b hb => Nat.lt_of_lt_of_le hb h.size
  refine ⟨h'.os.trans h.os, h'.tape.trans h.tape, h'.output.trans h.output, Nat.le_trans h.size h'.size, fun b hb => (h'.own b (hs b hb)).trans (h.own b hb),
    fun b hb => Nat.le_trans (h.fix b hb) (h'.fix b (hs b hb)), fun b hb hk => ?_, fun b hb hk => ?_, fun b i v hb hi hc => ?_⟩
  · exact (h'.fixe b (hs b hb) (by rw [h.own b hb]; exact hk)).trans (h.fixe b hb hk)
  · exact (h'.blk b (hs b hb) (by rw [h.own b hb]; exact hk)).trans (h.blk b hb hk)
  · exact h'.pre b i v (hs b hb) (Nat.lt_of_lt_of_le hi (h.fix b hb)) (h.pre b i v hb hi hc)
theorem Ext.mono (h : Ext κ G w G' w') (hk : ∀ c, κ c → κ' c) : Ext κ' G w G' w' :=
  ⟨h.os, h.tape, h.output, h.size, h.own, h.fix, fun b hb hn => h.fixe b hb (fun hc => hn (hk _ hc)), fun b hb hn => h.blk b hb (fun hc => hn (hk _ hc)), h.pre⟩
theorem Ext.ofGrow (h : Grow w w') (ho : ∀ b, b < w.heap.size → G'.own b = G.own b) (hf : ∀ b, b < w.heap.size → G'.fix b = G.fix b) : Ext κ G w G' w' :=
  ⟨h.os, h.tape, h.output, h.size, ho, fun b hb => Nat.le_of_eq (hf b hb).symm, fun b hb _ => hf b hb, fun b hb _ => h.blk b hb id, fun b i v hb _ hc => h.gcell hc⟩
theorem Ext.grow (h : Grow w w') : Ext κ G w G w' := .ofGrow h (fun _ _ => rfl) (fun _ _ => rfl)
theorem Ext.upto (h : Grow w w') (o f : Nat → Nat) : Ext κ G w (G.upto w.heap.size o f) w' := .ofGrow h (fun b hb => by simp [Gh.upto, hb]) (fun b hb => by simp [Gh.upto, hb])
theorem Ext.drew (h : Ext κ G w G' w') : Ext κ G w G' w'.drew := ⟨h.os, h.tape, h.output, h.size, h.own, h.fix, h.fixe, h.blk, h.pre⟩
theorem Ext.heap (h : Ext κ G w G' w') {b : Nat} {o : Obj} (hb : w.heap[b]? = some o) (hk : ¬ κ (G.own b)) : w'.heap[b]? = some o := (h.blk b (Array.getElem?_eq_some_iff.1 hb).1 hk).trans hb
theorem Ext.keep (h : Ext κ G w G' w') : Keep (fun b => κ (G.own b)) w w' := ⟨h.os, h.tape, h.output, h.size, h.blk⟩
theorem Ext.lt (_h : Ext κ G w G' w') {b : Nat} {o : Obj} (hb : w.heap[b]? = some o) : b < w.heap.size := (Array.getElem?_eq_some_iff.1 hb).1
end

/-- What a slice reads as, for good. -/
def FixV (G : Gh) (v : Value) (n : Nat) : Prop := ∀ b o l c, v = .slice (some ⟨b, o, none⟩) l c → 0 < n → o + n ≤ G.fix b
def HasF (G : Gh) (w : World) (v : Value) (xs : List Value) : Prop := Has 1 w v xs ∧ FixV G v xs.length
abbrev HasFB (G : Gh) (w : World) (v : Value) (l : List UInt8) := HasF G w v (bs l)
theorem HasF.nil (G : Gh) (w : World) : HasF G w (.slice none 0 0) [] := ⟨Has.nil 1 w, fun _ _ _ _ h => by cases h⟩
theorem HasF.ext {κ : Nat → Prop} {G G' : Gh} {w w' : World} {v : Value} {xs : List Value} (h : HasF G w v xs) (hx : Ext κ G w G' w') : HasF G' w' v xs := by
  obtain ⟨h1, h2⟩ := h
  refine ⟨?_, fun b o l c hv hn => ?_⟩
  · rcases h1 with ⟨b, o, n, c, rfl, h3, h4, h5⟩ | h1
    · refine .inl ⟨b, o, n, c, rfl, h3, h4, fun j u hj => ?_⟩
      have hc := h5 j u hj
      have hlt : j < xs.length := (List.getElem?_eq_some_iff.1 hj).1
      have := h2 b o n c rfl (by omega)
      exact hx.pre b (o + j) u (World.block_lt_of_cell? w _ hc) (by omega) hc
    · exact .inr h1
  · rcases h1 with ⟨b', o', n', c', hv', h3, h4, h5⟩ | ⟨rfl, h1⟩
    · rw [hv] at hv'
      cases hv'
      have := h2 b o l c hv hn
      have hb : b < w.heap.size := World.block_lt_of_cell? w _ (h5 0 _ (List.getElem?_eq_getElem (l := xs) hn))
      exact Nat.le_trans this (hx.fix b hb)
    · simp at hn

def RowsF (G : Gh) (w : World) : List Value → List (List UInt8) → Prop
  | [], [] => True
  | v :: vs, l :: ls => HasFB G w v l ∧ RowsF G w vs ls
  | _, _ => False
section
variable {κ : Nat → Prop} {G G' : Gh} {w w' : World}
theorem RowsF.ext (hx : Ext κ G w G' w') : ∀ {vs : List Value} {ls : List (List UInt8)}, RowsF G w vs ls → RowsF G' w' vs ls
  | [], [], _ => trivial
  | _ :: _, _ :: _, ⟨h1, h2⟩ => ⟨h1.ext hx, RowsF.ext hx h2⟩
theorem RowsF.rows : ∀ {vs : List Value} {ls : List (List UInt8)}, RowsF G w vs ls → Rows w vs ls
  | [], [], _ => trivial
  | _ :: _, _ :: _, ⟨h1, h2⟩ => ⟨h1.1, RowsF.rows h2⟩
theorem RowsF.length : ∀ {vs : List Value} {ls : List (List UInt8)}, RowsF G w vs ls → vs.length = ls.length
  | [], [], _ => rfl
  | _ :: _, _ :: _, ⟨_, h⟩ => by simp [RowsF.length h]
theorem RowsF.get : ∀ {vs : List Value} {ls : List (List UInt8)}, RowsF G w vs ls → ∀ i (h1 : i < vs.length) (h2 : i < ls.length), HasFB G w vs[i] ls[i]
  | _ :: _, _ :: _, ⟨h, _⟩, 0, _, _ => h
  | _ :: _, _ :: _, ⟨_, h⟩, i + 1, h1, h2 => by simpa using RowsF.get h i (by simpa using h1) (by simpa using h2)
theorem RowsF.snoc : ∀ {vs : List Value} {ls : List (List UInt8)} {v : Value} {l : List UInt8}, RowsF G w vs ls → HasFB G w v l → RowsF G w (vs ++ [v]) (ls ++ [l])
  | [], [], _, _, _, h => ⟨h, trivial⟩
  | _ :: _, _ :: _, _, _, ⟨h1, h2⟩, h => ⟨h1, RowsF.snoc h2 h⟩
theorem RowsF.set : ∀ {vs : List Value} {ls : List (List UInt8)} {v : Value} {l : List UInt8} (i : Nat), RowsF G w vs ls → HasFB G w v l → RowsF G w (vs.set i v) (ls.set i l)
  | [], [], _, _, _, _, _ => trivial
  | _ :: _, _ :: _, _, _, 0, ⟨_, h2⟩, h => ⟨h, h2⟩
  | _ :: _, _ :: _, _, _, i + 1, ⟨h1, h2⟩, h => ⟨h1, RowsF.set i h2 h⟩
theorem RowsF.cell {vs : List Value} {ls : List (List UInt8)} (h : RowsF G w vs ls) : ∀ u ∈ vs, isCell u = true := h.rows.cell
theorem RowsF.of (h : ∀ v l, HasB w v l → FixV G v l.length → HasFB G w v l) : True := trivial
end

/-- Rows that are read for good. -/
def RowsAt (G : Gh) (w : World) (v : Value) (ls : List (List UInt8)) : Prop := ∃ vs, HasF G w v vs ∧ RowsF G w vs ls
theorem RowsAt.ext {κ : Nat → Prop} {G G' : Gh} {w w' : World} {v : Value} {ls : List (List UInt8)} (h : RowsAt G w v ls) (hx : Ext κ G w G' w') : RowsAt G' w' v ls := let ⟨vs, h1, h2⟩ := h; ⟨vs, h1.ext hx, h2.ext hx⟩
theorem RowsAt.has {G : Gh} {w : World} {v : Value} {ls : List (List UInt8)} (h : RowsAt G w v ls) : HasR w v ls := let ⟨vs, h1, h2⟩ := h; ⟨vs, h1.1, h2.rows⟩

/-- An operation, as the program notes it. -/
def OpF (G : Gh) (w : World) (v : Value) : DOp → Prop
  | .wr n b => ∃ u, v = .iface 111 (.agg #[.int .i64 n, u]) ∧ HasFB G w u b
  | .fl => v = .iface 113 (.agg #[])
def OpsF (G : Gh) (w : World) : List Value → List DOp → Prop
  | [], [] => True
  | v :: vs, o :: os => OpF G w v o ∧ OpsF G w vs os
  | _, _ => False
def OpsAt (G : Gh) (w : World) (v : Value) (os : List DOp) : Prop := ∃ vs, HasF G w v vs ∧ OpsF G w vs os
section
variable {κ : Nat → Prop} {G G' : Gh} {w w' : World}
theorem OpF.ext (hx : Ext κ G w G' w') {v : Value} {o : DOp} (h : OpF G w v o) : OpF G' w' v o := by
  cases o with
  | wr n b => obtain ⟨u, h1, h2⟩ := h; exact ⟨u, h1, h2.ext hx⟩
  | fl => exact h
theorem OpsF.ext (hx : Ext κ G w G' w') : ∀ {vs : List Value} {os : List DOp}, OpsF G w vs os → OpsF G' w' vs os
  | [], [], _ => trivial
  | _ :: _, _ :: _, ⟨h1, h2⟩ => ⟨h1.ext hx, OpsF.ext hx h2⟩
theorem OpsF.length : ∀ {vs : List Value} {os : List DOp}, OpsF G w vs os → vs.length = os.length
  | [], [], _ => rfl
  | _ :: _, _ :: _, ⟨_, h⟩ => by simp [OpsF.length h]
theorem OpsF.snoc : ∀ {vs : List Value} {os : List DOp} {v : Value} {o : DOp}, OpsF G w vs os → OpF G w v o → OpsF G w (vs ++ [v]) (os ++ [o])
  | [], [], _, _, _, h => ⟨h, trivial⟩
  | _ :: _, _ :: _, _, _, ⟨h1, h2⟩, h => ⟨h1, OpsF.snoc h2 h⟩
theorem OpsF.get : ∀ {vs : List Value} {os : List DOp}, OpsF G w vs os → ∀ i (h1 : i < vs.length) (h2 : i < os.length), OpF G w vs[i] os[i]
  | _ :: _, _ :: _, ⟨h, _⟩, 0, _, _ => h
  | _ :: _, _ :: _, ⟨_, h⟩, i + 1, h1, h2 => by simpa using OpsF.get h i (by simpa using h1) (by simpa using h2)
theorem OpF.cell {v : Value} {o : DOp} (h : OpF G w v o) : isCell v = true := by
  cases o with
  | wr n b => obtain ⟨u, h1, _⟩ := h; subst h1; rfl
  | fl => cases h; rfl
theorem OpsF.cell : ∀ {vs : List Value} {os : List DOp}, OpsF G w vs os → ∀ u ∈ vs, isCell u = true
  | v :: vs, o :: os, ⟨h1, h2⟩, u, hu => by
    rcases List.mem_cons.1 hu with rfl | hu
    · exact h1.cell
    · exact OpsF.cell h2 u hu
theorem OpsAt.ext {v : Value} {os : List DOp} (h : OpsAt G w v os) (hx : Ext κ G w G' w') : OpsAt G' w' v os := let ⟨vs, h1, h2⟩ := h; ⟨vs, h1.ext hx, h2.ext hx⟩
end

/-- The safe sectors: a row of κ's own. -/
def SafeAt (G : Gh) (κ : Nat) (w : World) (v : Value) (ls : List (List UInt8)) : Prop :=
  ∃ vs sb, v.ownBlock = some sb ∧ w.ownsRow 0 28 1 v ls.length vs ∧ RowsF G w vs ls ∧ G.own sb = κ ∧ G.fix sb = 0
theorem SafeAt.ext {K : Nat → Prop} {G G' : Gh} {κ : Nat} {w w' : World} {v : Value} {ls : List (List UInt8)} (h : SafeAt G κ w v ls) (hx : Ext K G w G' w') (hk : ¬ K κ) : SafeAt G' κ w' v ls := by
  obtain ⟨vs, sb, h1, h2, h3, h4, h5⟩ := h
  have hlt : sb < w.heap.size := (World.ownsRow.lt h2 sb h1).2
  refine ⟨vs, sb, h1, own_keep h2 hx.keep (fun b hb => ?_), h3.ext hx, by rw [hx.own sb hlt]; exact h4, by rw [hx.fixe sb hlt (by rw [h4]; exact hk)]; exact h5⟩
  rw [h1] at hb; cases hb
  rw [h4]; exact hk

/-- The block in which a slice may still grow. -/
def spare : Value → Option Nat
  | .slice (some a) n c => if n < c then some a.block else none
  | _ => none
/-- Writes that wait at one sector. -/
def WaitV (G : Gh) (κ : Nat) (w : World) (v : Value) (ls : List (List UInt8)) : Prop :=
  ∃ vs b c, v = .slice (some ⟨b, 0, none⟩) ls.length c ∧ HasF G w v vs ∧ RowsF G w vs ls ∧ ls ≠ [] ∧ (ls.length < c → G.own b = κ ∧ G.fix b = ls.length ∧ w.ownsRow 0 28 1 v ls.length vs)
theorem WaitV.ext {K : Nat → Prop} {G G' : Gh} {κ : Nat} {w w' : World} {v : Value} {ls : List (List UInt8)} (h : WaitV G κ w v ls) (hx : Ext K G w G' w') (hk : ¬ K κ) : WaitV G' κ w' v ls := by
  obtain ⟨vs, b, c, rfl, h1, h2, h3, h4⟩ := h
  refine ⟨vs, b, c, rfl, h1.ext hx, h2.ext hx, h3, fun hlt => ?_⟩
  obtain ⟨h5, h6, h7⟩ := h4 hlt
  have hb : b < w.heap.size := (World.ownsRow.lt h7 b rfl).2
  refine ⟨by rw [hx.own b hb]; exact h5, by rw [hx.fixe b hb (by rw [h5]; exact hk)]; exact h6, own_keep h7 hx.keep (fun b' hb' => ?_)⟩
  cases hb'; rw [h5]; exact hk

/-- A map's entries: keys are numbers, stamps are apart. -/
structure MapOk (es : List MapEntry) (clk : Nat) : Prop where
  keys : es.Pairwise fun a b => a.key ≠ b.key
  born : es.Pairwise fun a b => a.born ≠ b.born
  clk : ∀ e ∈ es, e.born < clk
def WaitAt (G : Gh) (κ : Nat) (w : World) (m : Nat) (q : Nat → List (List UInt8)) : Prop :=
  ∃ es clk, w.heap[m]? = some (.map es clk) ∧ G.own m = κ ∧ MapOk es.toList clk ∧
    (∀ e ∈ es.toList, ∃ n : Nat, e.key = .int .i64 n ∧ WaitV G κ w e.val (q n)) ∧
    (∀ n, q n ≠ [] → ∃ e ∈ es.toList, e.key = .int .i64 (n : Nat)) ∧
    es.toList.Pairwise fun a b => ∀ k, spare a.val = some k → spare b.val ≠ some k
theorem WaitAt.ext {K : Nat → Prop} {G G' : Gh} {κ : Nat} {w w' : World} {m : Nat} {q : Nat → List (List UInt8)} (h : WaitAt G κ w m q) (hx : Ext K G w G' w') (hk : ¬ K κ) : WaitAt G' κ w' m q := by
  obtain ⟨es, clk, h1, h2, h3, h4, h5, h6⟩ := h
  refine ⟨es, clk, hx.heap h1 (by rw [h2]; exact hk), by rw [hx.own m (hx.lt h1)]; exact h2, h3, fun e he => ?_, h5, h6⟩
  obtain ⟨n, h7, h8⟩ := h4 e he
  exact ⟨n, h7, h8.ext hx hk⟩

/-- The disk at block p, of owner κ. -/
def DiskAt (G : Gh) (κ : Nat) (w : World) (p : Nat) (D : Dsk) : Prop :=
  D.Ok ∧ D.ops.length ≤ 1000000 ∧ ∃ vf vl vs m, w.heap[p]? = some (.cells #[vf, vl, vs, .map (some m)] 94 (0, 0)) ∧ G.own p = κ ∧ G.fix p = 0 ∧
    RowsAt G w vf D.first ∧ OpsAt G w vl D.ops ∧ SafeAt G κ w vs D.safe ∧ WaitAt G κ w m D.wait
theorem DiskAt.ext {K : Nat → Prop} {G G' : Gh} {κ : Nat} {w w' : World} {p : Nat} {D : Dsk} (h : DiskAt G κ w p D) (hx : Ext K G w G' w') (hk : ¬ K κ) : DiskAt G' κ w' p D := by
  obtain ⟨ho, hl, vf, vl, vs, m, h1, h2, h3, h4, h5, h6, h7⟩ := h
  have hp := hx.lt h1
  exact ⟨ho, hl, vf, vl, vs, m, hx.heap h1 (by rw [h2]; exact hk), by rw [hx.own p hp]; exact h2, by rw [hx.fixe p hp (by rw [h2]; exact hk)]; exact h3, h4.ext hx, h5.ext hx, h6.ext hx hk, h7.ext hx hk⟩
theorem DiskAt.grow {G : Gh} {κ : Nat} {w w' : World} {p : Nat} {D : Dsk} (h : DiskAt G κ w p D) (hg : Grow w w') : DiskAt G κ w' p D := h.ext (K := fun _ => False) (.grow hg) id
end Go.Proofs.Ytneehlkofcdhoaa
