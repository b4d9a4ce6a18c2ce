/- What the walks say of memory: what stays ('Keep', 'Grow'), what a slice reads as ('Has'), what a call owns; and the rules at the operations that the plain reading leaves. -/
import Derived.Test.YtneehlkofcdhoaaWalk
import Derived.OwnWalk
import Derived.Below
import Derived.Deep.AppendSrc
import Derived.Laws.MakeOwn
namespace Go.Proofs.Ytneehlkofcdhoaa
open Go

/-- Nothing but the blocks of S has changed; streams and tape are as they were. -/
structure Keep (S : Nat → Prop) (w w' : World) : Prop where
  os : w'.os = w.os
  tape : w'.tape = w.tape
  output : w'.output = w.output
  size : w.heap.size ≤ w'.heap.size
  blk : ∀ b, b < w.heap.size → ¬ S b → w'.heap[b]? = w.heap[b]?
abbrev Grow := Keep (fun _ => False)

section
variable {S S' : Nat → Prop} {w w' w'' : World}
theorem Keep.refl (S : Nat → Prop) (w : World) : Keep S w w := ⟨rfl, rfl, rfl, Nat.le_refl _, fun _ _ _ => rfl⟩
theorem Keep.trans (h : Keep S w w') (h' : Keep S w' w'') : Keep S w w'' :=
  ⟨h'.os.trans h.os, h'.tape.trans h.tape, h'.output.trans h.output, Nat.le_trans h.size h'.size, fun b hb hs => (h'.blk b (Nat.lt_of_lt_of_le hb h.size) hs).trans (h.blk b hb hs)⟩
/-- What is new, or may be touched, may be touched again. -/
theorem Keep.then (h : Keep S w w') (h' : Keep S' w' w'') (hs : ∀ b, b < w.heap.size → S' b → S b) : Keep S w w'' :=
  ⟨h'.os.trans h.os, h'.tape.trans h.tape, h'.output.trans h.output, Nat.le_trans h.size h'.size,
    fun b hb hn => (h'.blk b (Nat.lt_of_lt_of_le hb h.size) (fun h => hn (hs b hb h))).trans (h.blk b hb hn)⟩
theorem Keep.mono (h : Keep S w w') (hs : ∀ b, b < w.heap.size → S b → S' b) : Keep S' w w' :=
  ⟨h.os, h.tape, h.output, h.size, fun b hb hn => h.blk b hb (fun h => hn (hs b hb h))⟩
theorem Keep.grow (h : Grow w w') : Keep S w w' := h.mono (fun _ _ h => h.elim)
theorem Keep.drew (h : Keep S w w') : Keep S w w'.drew := ⟨h.os, h.tape, h.output, h.size, h.blk⟩
theorem Keep.drew0 (h : Keep S w.drew w') : Keep S w w' := ⟨h.os, h.tape, h.output, h.size, h.blk⟩
theorem Keep.alloc (h : Keep S w w') (o : Obj) : Keep S w (w'.alloc o) :=
  h.trans ⟨rfl, rfl, rfl, by simp, fun b hb _ => heap_alloc_old w' o b hb⟩
theorem Keep.setCell (h : Keep S w w') {a : Addr} (u : Value) (ha : a.block < w.heap.size → S a.block) : Keep S w (w'.setCell a u) :=
  h.then (S' := fun b => b = a.block) ⟨rfl, rfl, rfl, by simp [World.setCell], fun b _ hn => Go.RowKit.Below.heap_setCell _ _ _ _ hn⟩ (fun b hb h => h ▸ ha (h ▸ hb))
theorem Keep.cell (h : Keep S w w') {a : Addr} {v : Value} (hc : w.cell? a = some v) (hs : ¬ S a.block) : w'.cell? a = some v :=
  (World.cell?_of_block (h.blk a.block (World.block_lt_of_cell? w a hc) hs)).trans hc
theorem Keep.heap (h : Keep S w w') {b : Nat} {o : Obj} (hc : w.heap[b]? = some o) (hs : ¬ S b) : w'.heap[b]? = some o :=
  (h.blk b (Array.getElem?_eq_some_iff.1 hc).1 hs).trans hc
theorem Keep.gcell (h : Grow w w') {a : Addr} {v : Value} (hc : w.cell? a = some v) : w'.cell? a = some v := h.cell hc id
theorem Keep.gheap (h : Grow w w') {b : Nat} {o : Obj} (hc : w.heap[b]? = some o) : w'.heap[b]? = some o := h.heap hc id
theorem Keep.grown {row : Option Nat} (h : w.grownBy w' row) : Keep (fun b => some b = row) w w' := ⟨h.os, h.tape, h.output, h.size, fun b hb hn => h.block b hb hn⟩
theorem Keep.below (h : Grow w w') : Go.RowKit.Below w.heap.size w w' := ⟨h.os, h.tape, h.output, h.size, fun b hb => h.blk b hb id⟩
/-- A call that has changed only what it made itself. -/
theorem Keep.own (h : Keep (fun b => w.heap.size ≤ b) w w') : Grow w w' := h.mono (fun b hb h => by omega)
end

/-- The cells of a block. -/
theorem cell_block {w : World} {b : Nat} {c : Array Value} {t : TypeId} {f : Nat × Nat} (h : w.heap[b]? = some (.cells c t f)) (i : Nat) : w.cell? ⟨b, i, none⟩ = c[i]? := by simp [World.cell?, h]
theorem frozen_block {w : World} {b : Nat} {c : Array Value} {t : TypeId} (h : w.heap[b]? = some (.cells c t (0, 0))) (i : Nat) : w.frozen? ⟨b, i, none⟩ = false := by simp [World.frozen?, h]

/-- The value v is a slice of elements of k cells each; these cells hold xs. -/
def Has (k : Nat) (w : World) (v : Value) (xs : List Value) : Prop :=
  (∃ b o n c, v = .slice (some ⟨b, o, none⟩) n c ∧ xs.length = n * k ∧ n ≤ c ∧ ∀ j u, xs[j]? = some u → w.cell? ⟨b, o + j, none⟩ = some u) ∨ (xs = [] ∧ v = .slice none 0 0)

section
variable {k : Nat} {w w' : World} {v : Value} {xs : List Value}
theorem Has.nil (k : Nat) (w : World) : Has k w (.slice none 0 0) [] := .inr ⟨rfl, rfl⟩
theorem Has.keep {S : Nat → Prop} (h : Has k w v xs) (hk : Keep S w w') (hs : ∀ b, v.ownBlock = some b → xs ≠ [] → ¬ S b) : Has k w' v xs := by
  rcases h with ⟨b, o, n, c, rfl, h1, h2, h3⟩ | h
  · refine .inl ⟨b, o, n, c, rfl, h1, h2, fun j u hj => hk.cell (h3 j u hj) (hs b rfl ?_)⟩
    intro he; subst he; simp at hj
  · exact .inr h
theorem Has.grow (h : Has k w v xs) (hk : Grow w w') : Has k w' v xs := h.keep hk (fun _ _ _ => id)
theorem Has.drew (h : Has k w v xs) : Has k w.drew v xs := h
theorem Has.isCell (h : Has k w v xs) : isCell v = true := by rcases h with ⟨b, o, n, c, rfl, _⟩ | ⟨_, rfl⟩ <;> rfl
theorem Has.len (h : Has 1 w v xs) (w2 : World) : lenF w2 0 v = some (.int .i64 xs.length) := by
  rcases h with ⟨b, o, n, c, rfl, h1, _⟩ | ⟨rfl, rfl⟩
  · simp [lenF]; omega
  · rfl
theorem Has.lenk (h : Has k w v xs) (hk : 0 < k) (w2 : World) : lenF w2 0 v = some (.int .i64 (xs.length / k : Nat)) := by
  rcases h with ⟨b, o, n, c, rfl, h1, _⟩ | ⟨rfl, rfl⟩
  · simp only [lenF]; rw [h1, Nat.mul_div_cancel _ hk]
  · simp [lenF]
theorem Has.idx (h : Has 1 w v xs) {i : Nat} (hi : i < xs.length) : ∃ a, iaF 1 v (.int .i64 i) = some (.pointer (some a)) ∧ w.cell? a = some xs[i] ∧ v.ownBlock = some a.block := by
  rcases h with ⟨b, o, n, c, rfl, h1, _, h3⟩ | ⟨rfl, rfl⟩
  · refine ⟨⟨b, o + i, none⟩, ?_, h3 i _ (List.getElem?_eq_getElem hi), rfl⟩
    rw [iaF_s (by omega), add_lit]; simp
  · simp at hi
theorem Has.idxk (h : Has k w v xs) {i : Nat} (hi : i < xs.length / k) : ∃ b o, iaF k v (.int .i64 i) = some (.pointer (some ⟨b, o, none⟩)) ∧ (∀ j, j < k → ∃ u, xs[i * k + j]? = some u ∧ w.cell? ⟨b, o + j, none⟩ = some u) ∧ v.ownBlock = some b := by
  rcases h with ⟨b, o, n, c, rfl, h1, _, h3⟩ | ⟨rfl, rfl⟩
  · have hk : 0 < k := by rcases Nat.eq_zero_or_pos k with h | h; · subst h; simp at hi
                          · exact h
    have hin : i < n := by rw [h1, Nat.mul_div_cancel _ hk] at hi; exact hi
    refine ⟨b, o + i * k, ?_, fun j hj => ?_, rfl⟩
    · rw [iaF_s (by omega), add_lit]; simp
    · have hlt : i * k + j < xs.length := by
        rw [h1]
        calc i * k + j < i * k + k := by omega
          _ = (i + 1) * k := by rw [Nat.succ_mul]
          _ ≤ n * k := Nat.mul_le_mul_right k hin
      refine ⟨xs[i * k + j], List.getElem?_eq_getElem hlt, ?_⟩
      have := h3 _ _ (List.getElem?_eq_getElem hlt)
      rw [Nat.add_assoc]; exact this
  · simp at hi
theorem Has.isnil (h : Has k w v xs) : ∃ q, (∀ neg, eqnF 1 neg v = some (.bool (if neg = true then !q else q))) ∧ (q = true → xs = [] ∧ v = .slice none 0 0) := by
  rcases h with ⟨b, o, n, c, rfl, _⟩ | ⟨rfl, rfl⟩
  · exact ⟨false, fun neg => rfl, by simp⟩
  · exact ⟨true, fun neg => rfl, by simp⟩
theorem Has.own {B : Nat} {t : TypeId} {n : Nat} (h : w.ownsRow B t k v n xs) : Has k w v xs := by
  have hc := fun g (hg : v.ownBlock = some g) => h.cells hg
  obtain ⟨h1, ⟨rfl, rfl⟩ | ⟨g, cap, cur, rfl, h2, h3, h4, h5, h6, h7⟩⟩ := h
  · right; simp at h1; exact ⟨h1, rfl⟩
  · refine .inl ⟨g, 0, n, cap, rfl, h1, h4, fun j u hj => ?_⟩
    have := hc g rfl j u hj
    rwa [add_lit] at this
/-- What append reads of it. -/
theorem Has.src {P : Program} {t e : TypeId} (h : Has k w v xs) (ht : P.underlying t = some (.slice e)) (hk : 0 < k) (h1 : ∀ u ∈ xs, Go.Proofs.Ytneehlkofcdhoaa.isCell u = true) : Src P k t v (xs.length / k) xs w := by
  rcases h with ⟨b, o, n, c, rfl, hl, _, h3⟩ | ⟨rfl, rfl⟩
  · rw [hl, Nat.mul_div_cancel _ hk]
    exact Src.ofSlice w ht _ n c xs hl (fun j u hj => by rw [add_lit]; exact h3 j u hj) (fun u hu => isCell_one (h1 u hu))
  · simpa using Src.ofNil (P := P) (size := k) w ht 0
end

/-- Bytes as cells. -/
def bs (l : List UInt8) : List Value := l.map fun b => .int .u8 b.toNat
theorem bs_length (l : List UInt8) : (bs l).length = l.length := by simp [bs]
theorem bs_cell (l : List UInt8) : ∀ u ∈ bs l, isCell u = true := by simp [bs]; intros; subst_vars; rfl
abbrev HasB (w : World) (v : Value) (l : List UInt8) := Has 1 w v (bs l)
def ints (l : List Int) : List Value := l.map fun n => .int .i64 n
abbrev HasI (w : World) (v : Value) (l : List Int) := Has 1 w v (ints l)

theorem Has.getB {w : World} {v : Value} {l : List UInt8} (h : HasB w v l) {i : Nat} (hi : i < l.length) : ∃ a, iaF 1 v (.int .i64 i) = some (.pointer (some a)) ∧ w.cell? a = some (.int .u8 (l[i].toNat : Int)) ∧ v.ownBlock = some a.block := by
  obtain ⟨a, h1, h2, h3⟩ := h.idx (i := i) (by simpa [bs] using hi)
  exact ⟨a, h1, by rw [h2]; simp [bs], h3⟩
theorem Has.getI {w : World} {v : Value} {l : List Int} (h : HasI w v l) {i : Nat} (hi : i < l.length) : ∃ a, iaF 1 v (.int .i64 i) = some (.pointer (some a)) ∧ w.cell? a = some (.int .i64 l[i]) ∧ v.ownBlock = some a.block := by
  obtain ⟨a, h1, h2, h3⟩ := h.idx (i := i) (by simpa [ints] using hi)
  exact ⟨a, h1, by rw [h2]; simp [ints], h3⟩
theorem Has.lenB {w : World} {v : Value} {l : List UInt8} (h : HasB w v l) (w2 : World) : lenF w2 0 v = some (.int .i64 l.length) := by rw [h.len]; simp [bs]
theorem Has.lenI {w : World} {v : Value} {l : List Int} (h : HasI w v l) (w2 : World) : lenF w2 0 v = some (.int .i64 l.length) := by rw [h.len]; simp [ints]

/-- Rows of bytes: each slice value reads as its row. -/
def Rows (w : World) : List Value → List (List UInt8) → Prop
  | [], [] => True
  | v :: vs, l :: ls => HasB w v l ∧ Rows w vs ls
  | _, _ => False
def HasR (w : World) (v : Value) (ls : List (List UInt8)) : Prop := ∃ vs, Has 1 w v vs ∧ Rows w vs ls

section
variable {w w' : World}
theorem Rows.keep {S : Nat → Prop} (hk : Keep S w w') : ∀ {vs : List Value} {ls : List (List UInt8)}, Rows w vs ls → (∀ v ∈ vs, ∀ b, v.ownBlock = some b → ¬ S b) → Rows w' vs ls
  | [], [], _, _ => trivial
  | v :: vs, l :: ls, ⟨h1, h2⟩, hs => ⟨h1.keep hk (fun b hb _ => hs v (by simp) b hb), Rows.keep hk h2 (fun u hu => hs u (by simp [hu]))⟩
theorem Rows.grow (hk : Grow w w') {vs : List Value} {ls : List (List UInt8)} (h : Rows w vs ls) : Rows w' vs ls := h.keep hk (fun _ _ _ _ => id)
theorem HasR.grow {v : Value} {ls : List (List UInt8)} (h : HasR w v ls) (hk : Grow w w') : HasR w' v ls := let ⟨vs, h1, h2⟩ := h; ⟨vs, h1.grow hk, h2.grow hk⟩
theorem Rows.length : ∀ {vs : List Value} {ls : List (List UInt8)}, Rows w vs ls → vs.length = ls.length
  | [], [], _ => rfl
  | _ :: _, _ :: _, ⟨_, h⟩ => by simp [Rows.length h]
theorem Rows.get : ∀ {vs : List Value} {ls : List (List UInt8)}, Rows w vs ls → ∀ i (h1 : i < vs.length) (h2 : i < ls.length), HasB w vs[i] ls[i]
  | _ :: _, _ :: _, ⟨h, _⟩, 0, _, _ => h
  | _ :: _, _ :: _, ⟨_, h⟩, i + 1, h1, h2 => by simpa using Rows.get h i (by simpa using h1) (by simpa using h2)
theorem HasR.len {v : Value} {ls : List (List UInt8)} (h : HasR w v ls) (w2 : World) : lenF w2 0 v = some (.int .i64 ls.length) := by
  obtain ⟨vs, h1, h2⟩ := h; rw [h1.len, h2.length]
theorem HasR.get {v : Value} {ls : List (List UInt8)} (h : HasR w v ls) {i : Nat} (hi : i < ls.length) : ∃ a u, iaF 1 v (.int .i64 i) = some (.pointer (some a)) ∧ w.cell? a = some u ∧ HasB w u ls[i] := by
  obtain ⟨vs, h1, h2⟩ := h
  have hl := h2.length
  obtain ⟨a, h3, h4, _⟩ := h1.idx (i := i) (by omega)
  exact ⟨a, _, h3, h4, h2.get i (by omega) hi⟩
theorem Rows.snoc : ∀ {vs : List Value} {ls : List (List UInt8)} {v : Value} {l : List UInt8}, Rows w vs ls → HasB w v l → Rows w (vs ++ [v]) (ls ++ [l])
  | [], [], _, _, _, h => ⟨h, trivial⟩
  | _ :: _, _ :: _, _, _, ⟨h1, h2⟩, h => ⟨h1, Rows.snoc h2 h⟩
theorem Rows.cell : ∀ {vs : List Value} {ls : List (List UInt8)}, Rows w vs ls → ∀ u ∈ vs, isCell u = true
  | v :: vs, l :: ls, ⟨h1, h2⟩, u, hu => by
    rcases List.mem_cons.1 hu with rfl | hu
    · exact h1.isCell
    · exact Rows.cell h2 u hu
end

/-- The element type of a slice type. -/
structure ElemIs (P : Program) (t e : TypeId) (size bytes : Nat) (z : Value) : Prop where
  ht : P.underlying t = some (.slice e)
  hi : ∃ i, P.info? e = some i ∧ i.zero = some z ∧ i.size = size ∧ i.bytes = bytes
  hz : z.cells.size = size
  pos : 0 < size
def elemChk (P : Program) (t : TypeId) : Option (TypeId × Nat × Nat × Value) :=
  match P.underlying t with
  | some (.slice e) => match P.info? e with
    | some i => match i.zero with
      | some z => if z.cells.size = i.size ∧ 0 < i.size then some (e, i.size, i.bytes, z) else none
      | none => none
    | none => none
  | _ => none
theorem elem_of {P : Program} {t e : TypeId} {size bytes : Nat} {z : Value} (h : elemChk P t = some (e, size, bytes, z)) : ElemIs P t e size bytes z := by
  unfold elemChk at h
  split at h
  · rename_i e' ht
    split at h
    · rename_i i hi
      split at h
      · rename_i z' hz
        split at h
        · rename_i hc; simp at h; obtain ⟨rfl, rfl, rfl, rfl⟩ := h; exact ⟨ht, ⟨i, hi, hz, rfl, rfl⟩, hc.1, hc.2⟩
        · cases h
      · cases h
    · cases h
  · cases h

section rules
variable {n : Nat} {P : Program} {k : Kont} {e : Env} {w : World} {l : List GOp} {d : Option Nat}
theorem hard_rule {o : Oper} {v : Value} {w' : World} (hr : (execOp (ev e) o).run P w = .ok (.value v) w') (h : R (symOps P l k (updO e d v) w')) : R (symOps P (⟨d, .hard o, none⟩ :: l) k e w) :=
  Or.inl (by rw [hr]; exact h)
theorem call_rule {f : FuncId} {vs : List Value} {Φ : Value → World → Prop} {Ψ : List PanicEntry → World → Prop} (hc : Calls P f vs.toArray w (Out Φ Ψ)) (hp : ∀ c w', Ψ c w' → k.p c w')
    (h : ∀ v w', Φ v w' → R (symOps P l k (updO e d v) w')) : callV P f vs d l k e w :=
  hc.mono fun en w' he => by
    cases en with
    | returned v => exact h v w' he
    | panicked c => exact hp c w' he
    | outgrown => exact (he : False).elim
/-- A call that does not panic. -/
def NoPanic (c : List PanicEntry) (w : World) : Prop := False
abbrev Ret (Φ : Value → World → Prop) := Out Φ NoPanic
theorem call0 {f : FuncId} {vs : List Value} {Φ : Value → World → Prop} (hc : Calls P f vs.toArray w (Ret Φ)) (h : ∀ v w', Φ v w' → R (symOps P l k (updO e d v) w')) : callV P f vs d l k e w :=
  call_rule hc (fun _ _ h => h.elim) h
theorem Ret.mono {Φ Φ' : Value → World → Prop} {f : FuncId} {vs : Array Value} (hc : Calls P f vs w (Ret Φ)) (h : ∀ v w', Φ v w' → Φ' v w') : Calls P f vs w (Ret Φ') :=
  hc.mono fun en w' he => by
    cases en with
    | returned v => exact h v w' he
    | panicked c => exact he
    | outgrown => exact (he : False).elim
theorem loop_rule {c : SCode} (I : Env → World → Prop) (μ : Env → World → Nat) (h0 : I e w)
    (round : ∀ e w, I e w → R (symS n P c ⟨fun e' w' => I e' w' ∧ μ e' w' < μ e w, k.x, k.r, k.p⟩ e w)) : R (symS n P (.loop c) k e w) := ⟨I, μ, h0, round⟩
theorem run_builtin {b : Builtin} {args : Array Operand} {ts : Array TypeId} {ty : TypeId} {v : Value} {w' : World} {vs : List Value} (hv : args.toList.map (ev e) = vs)
    (hr : ∀ cs, (builtin b ts ty cs vs.toArray).run P w = .ok (.value v) w') :
    (execOp (ev e) (H (.call { callee := .builtin b, args := args, argTypes := ts }) ty)).run P w = .ok (.value v) w' := by
  subst hv
  simp only [← Array.toList_map, Array.toArray_toList] at hr
  simpa [execOp, H, resolve, invoke] using hr _
/-- append onto a slice that the call owns. -/
theorem app_own {x y : Operand} {t el ty : TypeId} {size bytes B m cnt : Nat} {z v u : Value} {xs news : List Value} (he : ElemIs P t el size bytes z)
    (hx : ev e x = v) (hy : ev e y = u) (hown : w.ownsRow B el size v cnt xs) (hsrc : Has size w u news) (hm : news.length = m * size) (hcell : ∀ q ∈ news, isCell q = true)
    (hbytes : (cnt + m) * bytes ≤ 140737488355328) (h63 : cnt + m ≤ 140737488355328) (hB : B ≤ w.heap.size)
    (h : ∀ v' w', w'.ownsRow B el size v' (cnt + m) (xs ++ news) → w.grownBy w' v.ownBlock → R (symOps P l k (updO e d v') w')) :
    R (symOps P (⟨d, .hard (H (.call { callee := .builtin .append, args := #[x, y], argTypes := #[t, t] }) ty), none⟩ :: l) k e w) := by
  obtain ⟨i, hi, hz, hsz, hby⟩ := he.hi
  have hpos := he.pos
  have h63' : cnt + m ≤ maxLen := by unfold maxLen; omega
  rcases hsrc with ⟨b, o, q, c, rfl, h1, h2, h3⟩ | ⟨rfl, rfl⟩
  · have hqm : q = m := Nat.eq_of_mul_eq_mul_right hpos (h1.symm.trans hm)
    subst hqm
    obtain ⟨v', w', hr, ho, hg, _⟩ := run_append_own (P := P) w B t ty el i z size bytes he.ht hi hz hsz hby he.hz hpos v cnt xs hown ⟨b, o, none⟩ q c news h1
      (fun j u hj => by rw [add_lit]; exact h3 j u hj) (fun u hu => isCell_one (hcell u hu)) h63' hbytes hB
    exact hard_rule (run_builtin (vs := [v, .slice (some ⟨b, o, none⟩) q c]) (by simp [hx, hy]) (fun cs => by simp [builtin, hr])) (h v' w' ho hg)
  · have hm0 : m = 0 := by
      rcases Nat.eq_zero_or_pos m with h0 | h0
      · exact h0
      · have := Nat.mul_pos h0 hpos
        simp only [List.length_nil] at hm; omega
    subst hm0
    have hr : (Builtin.append_ #[t, t] ty #[v, .slice none 0 0]).run P w = .ok v w := by
      obtain ⟨_, ⟨rfl, rfl⟩ | ⟨g, cap, cur, rfl, h2, h3, h4, h5, h6, h7⟩⟩ := hown
      · simp [Builtin.append_, run_underlying he.ht, sizeOf, typeInfo, hi, Builtin.lenOf, Builtin.firstCells]
      · simp [Builtin.append_, run_underlying he.ht, sizeOf, typeInfo, hi, Builtin.lenOf, Builtin.firstCells, h4, storeCells]
    exact hard_rule (run_builtin (vs := [v, .slice none 0 0]) (by simp [hx, hy]) (fun cs => by simp [builtin, hr])) (h v w (by simpa using hown) ⟨rfl, rfl, rfl, Nat.le_refl _, fun _ _ _ => rfl⟩)
/-- A part of one cell. -/
def oneF (v : Value) : Option (Array Value) := if v.cells.size = 1 then some v.cells else none
theorem fill_one {z : Value} {x : Operand} : fillV e #[z] [(0, (1, x))] = oneF (ev e x) := by
  simp only [fillV, oneF]
  generalize ev e x = v
  by_cases h : v.cells.size = 1
  · obtain ⟨c, hc⟩ := Array.size_eq_one_iff.1 h
    simp [hc]
  · simp [h]
theorem fill_nil {z : Array Value} : fillV e z [] = some z := rfl
theorem oneF_cell {v : Value} (h : isCell v = true) : oneF v = some #[v] := by simp [oneF, isCell_cells h]
theorem oneF_int {kk : IntKind} {a : Int} : oneF (.int kk a) = some #[.int kk a] := rfl
/-- A new row of one cell, as append's source. -/
theorem Has.new1 {v : Value} {t : TypeId} : Has 1 (w.alloc (.cells #[v] t)) (.slice (some ⟨w.heap.size, 0, none⟩) 1 1) [v] := by
  refine .inl ⟨w.heap.size, 0, 1, 1, rfl, rfl, Nat.le_refl _, fun j u hj => ?_⟩
  rw [cell_block (heap_alloc_new w _)]
  match j, hj with
  | 0, hj => simpa using hj
/-- make, elements of one cell. -/
theorem mk_rule {x y : Operand} {t el ty : TypeId} {bytes : Nat} {z : Value} {kx ky : IntKind} {a c : Int} (he : ElemIs P t el 1 bytes z) (hx : ev e x = .int kx a) (hy : ev e y = .int ky c) (h0 : 0 ≤ a) (h1 : a ≤ c)
    (h2 : (bytes : Int) * c ≤ 281474976710656) (h3 : c ≤ 281474976710656) (hzc : z.cells = #[z])
    (h : R (symOps P l k (updO e d (.slice (some ⟨w.heap.size, 0, none⟩) a.toNat c.toNat)) (w.alloc (.cells (Array.replicate c.toNat z) el)))) :
    R (symOps P (⟨d, .hard (H (.makeSlice t x y) ty), none⟩ :: l) k e w) := by
  obtain ⟨i, hi, hz, hsz, hby⟩ := he.hi
  have hm : madeCells z.cells (c.toNat * i.size) = Array.replicate c.toNat z := by
    apply Array.ext
    · simp [size_madeCells, hsz]
    · intro j h1 h2; simp [madeCells, hzc, Nat.mod_one]
  have hr := run_make (P := P) w t el i z he.ht hi hz kx ky a c h0 h1 (by rw [hby]; exact h2) (by omega)
  rw [hm] at hr
  exact hard_rule (by simp only [execOp, H, hx, hy, Sem.run_bind, hr, Result.andThen_ok]; rfl) h
end rules

section own
variable {w w' : World} {B n : Nat} {el : TypeId} {v : Value} {xs : List Value}
/-- A store into a row that the call owns. -/
theorem own_store (h : w.ownsRow B el 1 v n xs) {i : Nat} (hi : i < n) {u : Value} (hu : isCell u = true) :
    ∃ a w', iaF 1 v (.int .i64 i) = some (.pointer (some a)) ∧ stF w (.pointer (some a)) u = some (undef, w') ∧ w'.ownsRow B el 1 v n (xs.set i u) ∧ Keep (fun b => v.ownBlock = some b) w w' ∧ v.ownBlock = some a.block := by
  obtain ⟨h1, ⟨_, h2⟩ | ⟨g, cap, cur, rfl, h2, h3, h4, h5, h6, h7⟩⟩ := h
  · omega
  · have hlt : i < cur.size := by omega
    have hc : w.cell? ⟨g, i, none⟩ = some cur[i] := by rw [cell_block h3]; exact Array.getElem?_eq_getElem hlt
    refine ⟨⟨g, i, none⟩, w.setCell ⟨g, i, none⟩ u, ?_, stF_p hu hc (frozen_block h3 i), ⟨by simpa using h1, .inr ⟨g, cap, cur.setIfInBounds i u, rfl, h2, ?_, h4, h5, by simpa using h6, ?_⟩⟩, ?_, rfl⟩
    · rw [iaF_s (by omega), add_lit]; simp
    · have hg : g < w.heap.size := (Array.getElem?_eq_some_iff.1 h3).1
      simp only [World.setCell, Array.getElem?_modify, if_pos rfl, h3, Option.map_some]
      simp
    · rw [← h7]
      simp [List.take_set]
    · exact (Keep.refl _ _).setCell u (fun _ => rfl)
theorem own_keep {S : Nat → Prop} (h : w.ownsRow B el 1 v n xs) (hk : Keep S w w') (hs : ∀ b, v.ownBlock = some b → ¬ S b) : w'.ownsRow B el 1 v n xs := by
  obtain ⟨h1, h2 | ⟨g, cap, cur, rfl, h2, h3, h4⟩⟩ := h
  · exact ⟨h1, .inl h2⟩
  · exact ⟨h1, .inr ⟨g, cap, cur, rfl, h2, hk.heap h3 (hs g rfl), h4⟩⟩
theorem own_made (w : World) (B : Nat) (hB : B ≤ w.heap.size) (el : TypeId) (n : Nat) (hn : n ≤ 281474976710656) (z : Value) : (w.alloc (.cells (Array.replicate n z) el)).ownsRow B el 1 (.slice (some ⟨w.heap.size, 0, none⟩) n n) n (List.replicate n z) :=
  ⟨by simp, .inr ⟨w.heap.size, n, _, rfl, hB, heap_alloc_new w _, Nat.le_refl _, by unfold maxLen; omega, by simp, by simp⟩⟩
theorem own_base {B' : Nat} (h : w.ownsRow B el 1 v n xs) (hB : B' ≤ B) : w.ownsRow B' el 1 v n xs := by
  obtain ⟨h1, h2 | ⟨g, cap, cur, rfl, h2, h3⟩⟩ := h
  · exact ⟨h1, .inl h2⟩
  · exact ⟨h1, .inr ⟨g, cap, cur, rfl, Nat.le_trans hB h2, h3⟩⟩
theorem own_ne {B' k k' m : Nat} {t t' : TypeId} {u : Value} {ys : List Value} (h : w.ownsRow B t k v n xs) (h' : w.ownsRow B' t' k' u m ys) (ht : t ≠ t') {b : Nat} (hb : v.ownBlock = some b) : u.ownBlock ≠ some b := by
  intro hu
  obtain ⟨_, ⟨rfl, _⟩ | ⟨g, cap, cur, rfl, _, h3, _⟩⟩ := h
  · simp [Value.ownBlock] at hb
  · obtain ⟨_, ⟨rfl, _⟩ | ⟨g', cap', cur', rfl, _, h3', _⟩⟩ := h'
    · simp [Value.ownBlock] at hu
    · simp [Value.ownBlock] at hb hu
      subst hb; subst hu
      rw [h3] at h3'
      simp at h3'
      exact ht h3'.2
theorem own_grow (h : w.ownsRow B el 1 v n xs) (hk : Grow w w') : w'.ownsRow B el 1 v n xs := own_keep h hk (fun _ _ => id)
end own

/-- Rows that the call owns. -/
def RowsO (B : Nat) (t : TypeId) (w : World) : List Value → List (List UInt8) → Prop
  | [], [] => True
  | v :: vs, l :: ls => w.ownsRow B t 1 v l.length (bs l) ∧ RowsO B t w vs ls
  | _, _ => False
section
variable {w w' : World} {B : Nat} {t : TypeId}
theorem RowsO.rows : ∀ {vs : List Value} {ls : List (List UInt8)}, RowsO B t w vs ls → Rows w vs ls
  | [], [], _ => trivial
  | _ :: _, _ :: _, ⟨h1, h2⟩ => ⟨Has.own h1, RowsO.rows h2⟩
theorem RowsO.keep {S : Nat → Prop} (hk : Keep S w w') (hs : ∀ b, S b → ∀ u n xs, w.ownsRow B t 1 u n xs → u.ownBlock ≠ some b) : ∀ {vs : List Value} {ls : List (List UInt8)}, RowsO B t w vs ls → RowsO B t w' vs ls
  | [], [], _ => trivial
  | _ :: _, _ :: _, ⟨h1, h2⟩ => ⟨own_keep h1 hk (fun b hb hS => hs b hS _ _ _ h1 hb), RowsO.keep hk hs h2⟩
theorem RowsO.grow (hk : Grow w w') {vs : List Value} {ls : List (List UInt8)} (h : RowsO B t w vs ls) : RowsO B t w' vs ls := h.keep hk (fun _ h => h.elim)
theorem RowsO.base {B' : Nat} (hB : B' ≤ B) : ∀ {vs : List Value} {ls : List (List UInt8)}, RowsO B t w vs ls → RowsO B' t w vs ls
  | [], [], _ => trivial
  | _ :: _, _ :: _, ⟨h1, h2⟩ => ⟨own_base h1 hB, RowsO.base hB h2⟩
theorem RowsO.length : ∀ {vs : List Value} {ls : List (List UInt8)}, RowsO B t w vs ls → vs.length = ls.length
  | [], [], _ => rfl
  | _ :: _, _ :: _, ⟨_, h⟩ => by simp [RowsO.length h]
theorem RowsO.snoc : ∀ {vs : List Value} {ls : List (List UInt8)} {v : Value} {l : List UInt8}, RowsO B t w vs ls → w.ownsRow B t 1 v l.length (bs l) → RowsO B t w (vs ++ [v]) (ls ++ [l])
  | [], [], _, _, _, h => ⟨h, trivial⟩
  | _ :: _, _ :: _, _, _, ⟨h1, h2⟩, h => ⟨h1, RowsO.snoc h2 h⟩
theorem RowsO.get : ∀ {vs : List Value} {ls : List (List UInt8)}, RowsO B t w vs ls → ∀ i (h1 : i < vs.length) (h2 : i < ls.length), w.ownsRow B t 1 vs[i] ls[i].length (bs ls[i])
  | _ :: _, _ :: _, ⟨h, _⟩, 0, _, _ => h
  | _ :: _, _ :: _, ⟨_, h⟩, i + 1, h1, h2 => by simpa using RowsO.get h i (by simpa using h1) (by simpa using h2)
end
/-- A slice of rows, all of it made by the call: the slice of type tr, the rows of type t. -/
def FreshR (B : Nat) (tr t : TypeId) (w : World) (v : Value) (ls : List (List UInt8)) : Prop := ∃ vs, w.ownsRow B tr 1 v ls.length vs ∧ RowsO B t w vs ls
theorem FreshR.has {B : Nat} {tr t : TypeId} {w : World} {v : Value} {ls : List (List UInt8)} (h : FreshR B tr t w v ls) : HasR w v ls := let ⟨vs, h1, h2⟩ := h; ⟨vs, Has.own h1, h2.rows⟩
theorem FreshR.grow {B : Nat} {tr t : TypeId} {w w' : World} {v : Value} {ls : List (List UInt8)} (h : FreshR B tr t w v ls) (hk : Grow w w') : FreshR B tr t w' v ls := let ⟨vs, h1, h2⟩ := h; ⟨vs, own_grow h1 hk, h2.grow hk⟩
end Go.Proofs.Ytneehlkofcdhoaa
