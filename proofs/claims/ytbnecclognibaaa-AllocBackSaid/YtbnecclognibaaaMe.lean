/- Texts of one claim, put together in their order: what each proves stands ahead of it. -/
import Derived.Test.YtbnecclognibaaaMd
import Derived.Test.YtbnecclognibaaaMc
import Derived.Test.YtbnecclognibaaaMb
import Derived.Laws.ComplexArith
import Derived.Laws.BytesString
import Derived.Laws.Strings
import Derived.Laws.CopyRow
/- The map of what is free, in memory; a page of bits is read, looked at, turned. -/
namespace Go.Proofs.Ytbnecclognibaaa
open Go
set_option linter.unusedSimpArgs false
open Go.RowKit (intOf)
theorem Ext.then {K : Nat → Prop} {G G1 : Gh} {w w1 w2 : World} {g : Nat} (h : Ext K G w G1 w1) (hk : Keep (fun b => b = g) w1 w2) (hg : w.heap.size ≤ g) : Ext K G w G1 w2 :=
  ⟨hk.os.trans h.os, hk.tape.trans h.tape, hk.output.trans h.output, Nat.le_trans h.size hk.size, h.own, h.fix, h.fixe,
    fun b hb hn => (hk.blk b (Nat.lt_of_lt_of_le hb h.size) (by omega)).trans (h.blk b hb hn), fun b i v hb hi hc => hk.cell (h.pre b i v hb hi hc) (fun hh => by simp only at hh; omega)⟩
/-- The map at block m (nobody writes it any more), of a cache of k inodes. -/
structure MapC (G : Gh) (κ μ : Nat) (w : World) (m p lq came : Nat) (c : Csh) (k : Nat) : Prop where
  cache : CacheS G κ μ w p lq came c
  at_ : w.heap[m]? = some (.cells #[.pointer (some ⟨p, 0, none⟩), .int .i64 k] 61 (0, 0))
  own : G.own m = 0
  ne : κ ≠ 6 ∧ μ ≠ 6
  k5 : k ≤ 512
  n3 : 3 ≤ c.N
section
variable {G G' : Gh} {κ μ m p lq came k : Nat} {w w' : World} {c : Csh}
theorem MapC.ext {K : Nat → Prop} (h : MapC G κ μ w m p lq came c k) (hx : Ext K G w G' w') (hk : ¬ K κ) (hm : ¬ K μ) (h0 : ¬ K 0) : MapC G' κ μ w' m p lq came c k :=
  ⟨h.cache.ext hx hk hm h0, hx.heap h.at_ (by rw [h.own]; exact h0), by rw [hx.own m (hx.lt h.at_)]; exact h.own, h.ne, h.k5, h.n3⟩
theorem MapC.grow (h : MapC G κ μ w m p lq came c k) (hg : Grow w w') : MapC G κ μ w' m p lq came c k := h.ext (K := fun _ => False) (.grow hg) id id id
theorem MapC.put {c' : Csh} {K : Nat → Prop} (h : MapC G κ μ w m p lq came c k) (hx : Ext K G w G' w') (h0 : ¬ K 0) (hc : CacheS G' κ μ w' p lq came c') (hN : c'.N = c.N) : MapC G' κ μ w' m p lq came c' k :=
  ⟨hc, hx.heap h.at_ (by rw [h.own]; exact h0), by rw [hx.own m (hx.lt h.at_)]; exact h.own, h.ne, h.k5, by rw [hN]; exact h.n3⟩
theorem MapC.cells (h : MapC G κ μ w m p lq came c k) : w.cell? ⟨m, 0, none⟩ = some (.pointer (some ⟨p, 0, none⟩)) ∧ w.cell? ⟨m, 1, none⟩ = some (.int .i64 k) :=
  ⟨by rw [cell_block h.at_]; rfl, by rw [cell_block h.at_]; rfl⟩
theorem MapC.nine (h : MapC G κ μ w m p lq came c k) : c.N ≤ 4096 := by
  have h1 := h.cache.oks.most
  simp only [Csh.N]; omega
theorem upto_own {G : Gh} {B b o f : Nat} (h : B ≤ b) : (G.upto B (fun _ => o) (fun _ => f)).own b = o ∧ (G.upto B (fun _ => o) (fun _ => f)).fix b = f := by simp [Gh.upto, Nat.not_lt.2 h]
/-- How many bits count on a page. -/
def nbits (c : Csh) (k pg : Nat) : Nat := if pg = 2 then c.N else k
set_option maxHeartbeats 1000000 in
theorem mread_spec (h : MapC G κ μ w m p lq came c k) {pg : Nat} (hpg : pg = 1 ∨ pg = 2) :
    Calls Try.prog 41 #[.pointer (some ⟨m, 0, none⟩), .int .i64 pg] w (Ret fun v w' => ∃ u G', v = .agg #[u, .int .i64 (nbits c k pg)] ∧ w'.ownsRow w.heap.size 5 1 u 512 (bs (c.page pg)) ∧ (∀ b, u.ownBlock = some b → G'.own b = 6 ∧ G'.fix b = 0) ∧
      MapC G' κ μ w' m p lq came c k ∧ Ext (fun x => x = μ) G w G' w') := by
  obtain ⟨hne1, hne2, hne3⟩ := h.cache.ne
  have h6 := h.ne
  have hn3 := h.n3
  apply enter41
  apply R_in
  have hg0 : Grow w (w.alloc (.cells (Value.agg #[.slice none 0 0, .int .i64 0]).cells 79)) := (Keep.refl _ _).alloc _
  have hb0 := heap_alloc_new w (.cells (Value.agg #[.slice none 0 0, .int .i64 0]).cells 79)
  have hs0 : (w.alloc (.cells (Value.agg #[.slice none 0 0, .int .i64 0]).cells 79)).heap.size = w.heap.size + 1 := by simp
  simp (maxSteps := 1000000) (disch := omega) only [↓sy1, sy2, sy3, readOK, sy5, sy6, Nat.reduceEqDiff, ↓reduceIte, sy7, sy8, sy9, sya, oneOf, syb, syc, Nat.reduceAdd, Nat.reduceMul, syd, sye, syf, syg, syh, reduceCtorEq, F41, (h.grow hg0).cells.1]
  rw [agg2_cells (x := .slice none 0 0) (y := .int .i64 0) rfl rfl] at hg0 hb0 hs0 ⊢
  generalize w.alloc (.cells #[.slice none 0 0, .int .i64 0] 79) = w0 at hg0 hb0 hs0 ⊢
  have hx0 : Ext0 G w (G.upto w.heap.size (fun _ => 6) (fun _ => 0)) w0 := .upto hg0 _ _
  have h0 := h.ext hx0 id id id
  have ho0 := upto_own (G := G) (o := 6) (f := 0) (Nat.le_refl w.heap.size)
  generalize (G.upto w.heap.size (fun _ => 6) (fun _ => 0)) = G0 at hx0 h0 ho0
  refine call0 (csread_strong h0.cache (n := pg) (by omega)) ?_
  rintro _ w2 ⟨u, G1, w1, rfl, hu, hc1, hx1, hg2⟩
  have hx2 : Ext0 G1 w1 (G1.upto w1.heap.size (fun _ => 6) (fun _ => 0)) w2 := .upto hg2 _ _
  have h1 := h0.put hx1 (by omega) hc1 rfl
  have h2 := h1.ext hx2 id id id
  have hob : ∀ b, u.ownBlock = some b → (G1.upto w1.heap.size (fun _ => 6) (fun _ => 0)).own b = 6 ∧ (G1.upto w1.heap.size (fun _ => 6) (fun _ => 0)).fix b = 0 := fun b hb => upto_own (World.ownsRow.lt hu b hb).1
  have hlt0 : w.heap.size < w0.heap.size := by omega
  have hs1 := hx1.size
  have hbl1 := hx1.heap hb0 (by rw [ho0.1]; omega)
  have hbl2 : (G1.upto w1.heap.size (fun _ => 6) (fun _ => 0)).own w.heap.size = 6 ∧ (G1.upto w1.heap.size (fun _ => 6) (fun _ => 0)).fix w.heap.size = 0 := by
    rw [hx2.own _ (by omega), hx2.fixe _ (by omega) id, hx1.own _ hlt0, hx1.fixe _ hlt0 (by rw [ho0.1]; omega)]; exact ho0
  have hb2 := hg2.gheap hbl1
  generalize (G1.upto w1.heap.size (fun _ => 6) (fun _ => 0)) = G2 at hx2 h2 hob hbl2
  have hx02 : Ext (fun x => x = μ) G w G2 w2 := ((hx0.mono (fun _ h => h.elim)).trans hx1).trans (hx2.mono (fun _ h => h.elim))
  have huc := (Has.own hu).isCell
  have huB := World.ownsRow.lt hu
  have hu' := own_base hu (B' := w.heap.size) (by omega)
  clear hu hc1 hx1 hg2 hx2 h1 h0 hx0 ho0 hbl1
  have key : ∀ w3 nn, Grow w2 w3 → nn = nbits c k pg → ∃ w4, stnF w3 2 (.pointer (some ⟨w.heap.size, 0, none⟩)) (.agg #[u, .int .i64 nn]) = some (undef, w4) ∧
      RC (Try.prog.cellsOf 79) (.pointer (some ⟨w.heap.size, 0, none⟩)) (fun v w' => ∃ u G', v = .agg #[u, .int .i64 (nbits c k pg)] ∧ w'.ownsRow w.heap.size 5 1 u 512 (bs (c.page pg)) ∧ (∀ b, u.ownBlock = some b → G'.own b = 6 ∧ G'.fix b = 0) ∧
      MapC G' κ μ w' m p lq came c k ∧ Ext (fun x => x = μ) G w G' w') w4 := fun w3 nn hg3 hnn => by
    have hb3 := hg3.gheap hb2
    obtain ⟨w4, hst, hb4, hk4⟩ := stn2 (x := u) (y := .int .i64 nn) hb3 huc rfl
    have hub : ∀ b, u.ownBlock = some b → b ≠ w.heap.size := fun b hb => by have := (huB b hb).1; omega
    refine ⟨w4, hst, _, [u, .int .i64 nn], rfl, ?_, u, G2, by rw [hnn], own_keep (own_grow hu' hg3) hk4 (fun b hb hh => hub b hb hh), hob, ?_, ?_⟩
    · rw [show Try.prog.cellsOf 79 = 2 from by kernel_rfl]
      exact loadN2 (by rw [cell_block hb4]; rfl) (by rw [cell_block hb4]; rfl)
    · exact (h2.grow hg3).ext (.on0 hk4 hbl2.1 hbl2.2) h6.1 h6.2 (by omega)
    · exact (hx02.trans (.grow hg3)).then hk4 (Nat.le_refl _)
  rcases hpg with rfl | rfl
  · obtain ⟨w4, hst, hrc⟩ := key w2 k (Keep.refl _ _) rfl
    simp (maxSteps := 1000000) (disch := omega) only [↓sy1, sy2, sy3, readOK, sy5, sy6, Nat.reduceEqDiff, ↓reduceIte, sy7, sy8, sy9, sya, oneOf, syb, syc, Nat.reduceAdd, Nat.reduceMul, syd, sye, syf, syg, syh, reduceCtorEq, h2.cells, fill_gen, fillF_2 (u := u) (v := .int .i64 (k : Int)) huc rfl, hst, Int.reduceEq, decide_false]
    exact R_out hrc
  · simp (maxSteps := 1000000) (disch := omega) only [↓sy1, sy2, sy3, readOK, sy5, sy6, Nat.reduceEqDiff, ↓reduceIte, sy7, sy8, sy9, sya, oneOf, syb, syc, Nat.reduceAdd, Nat.reduceMul, syd, sye, syf, syg, syh, reduceCtorEq, h2.cells, Int.reduceEq, decide_true]
    refine call0 (cslog_spec h2.cache) ?_
    rintro _ w3 ⟨rfl, rfl⟩
    simp (maxSteps := 1000000) (disch := omega) only [↓sy1, sy2, sy3, readOK, sy5, sy6, Nat.reduceEqDiff, ↓reduceIte, sy7, sy8, sy9, sya, oneOf, syb, syc, Nat.reduceAdd, Nat.reduceMul, syd, sye, syf, syg, syh, reduceCtorEq]
    obtain ⟨row, hca⟩ := h2.cache
    refine call0 (pages_spec hca.2.log) ?_
    rintro _ w3 ⟨rfl, hg3⟩
    obtain ⟨w4, hst, hrc⟩ := key w3 c.N hg3 rfl
    have hN : ((c.D.first.length - c.size - 1 : Nat) : Int) = (c.N : Int) := rfl
    simp (maxSteps := 1000000) (disch := omega) only [↓sy1, sy2, sy3, readOK, sy5, sy6, Nat.reduceEqDiff, ↓reduceIte, sy7, sy8, sy9, sya, oneOf, syb, syc, Nat.reduceAdd, Nat.reduceMul, syd, sye, syf, syg, syh, reduceCtorEq, hN, fill_gen, fillF_2 (u := u) (v := .int .i64 (c.N : Int)) huc rfl, hst]
    exact R_out hrc
end
end Go.Proofs.Ytbnecclognibaaa

/- A bit is looked at, found, turned; whether pages fit. -/
namespace Go.Proofs.Ytbnecclognibaaa
open Go
set_option linter.unusedSimpArgs false
open Go.RowKit (intOf)
def bitChk (x i : Nat) : Bool :=
  decide (IntKind.u8.wrap ((BitVec.ofInt 8 ((x : Int).fdiv (2 ^ (min ((i : Int).toNat) 8))) &&& BitVec.ofInt 8 1).toNat : Nat) = if x.testBit i then 1 else 0) &&
  decide (IntKind.u8.wrap ((BitVec.ofInt 8 (x : Int) ^^^ BitVec.ofInt 8 (IntKind.u8.wrap (1 * 2 ^ (min ((i : Int).toNat) 8)))).toNat : Nat) = ((x ^^^ 2 ^ i : Nat) : Int)) &&
  decide (IntKind.u8.wrap ((BitVec.ofInt 8 (x : Int) ||| BitVec.ofInt 8 (IntKind.u8.wrap (1 * 2 ^ (min ((i : Int).toNat) 8)))).toNat : Nat) = ((x ||| 2 ^ i : Nat) : Int)) && decide ((x ^^^ 2 ^ i) % 256 = x ^^^ 2 ^ i)
set_option maxRecDepth 100000 in
theorem bit_chk : ((List.range 256).all fun x => (List.range 8).all (bitChk x)) = true := by kernel_rfl
theorem bit_at {x i : Nat} (hx : x < 256) (hi : i < 8) : bitChk x i = true :=
  List.all_eq_true.1 (List.all_eq_true.1 bit_chk x (List.mem_range.2 hx)) i (List.mem_range.2 hi)
theorem shr_and {x : UInt8} {i : Nat} (hi : i < 8) : ∃ a, binV .shr (.int .u8 (x.toNat : Int)) (.int .i64 (i : Int)) = some (.int .u8 a) ∧ binV .and (.int .u8 a) (.int .u8 1) = some (.int .u8 (if x.toNat.testBit i then 1 else 0)) := by
  have h := bit_at (x := x.toNat) x.toNat_lt hi
  simp only [bitChk, Bool.and_eq_true, decide_eq_true_eq] at h
  refine ⟨(x.toNat : Int).fdiv (2 ^ (min ((i : Int).toNat) 8)), ?_, ?_⟩
  · simp only [binV]; rw [if_neg (by omega)]; rfl
  · simp only [binV]; rw [if_pos trivial]; exact congrArg (fun z => some (Value.int .u8 z)) h.1.1.1
theorem shl_xor {x : UInt8} {i : Nat} (hi : i < 8) : ∃ a, binV .shl (.int .u8 1) (.int .i64 (i : Int)) = some (.int .u8 a) ∧ binV .xor (.int .u8 (x.toNat : Int)) (.int .u8 a) = some (.int .u8 ((flip1 x i).toNat : Int)) := by
  have h := bit_at (x := x.toNat) x.toNat_lt hi
  simp only [bitChk, Bool.and_eq_true, decide_eq_true_eq] at h
  refine ⟨IntKind.u8.wrap (1 * 2 ^ (min ((i : Int).toNat) 8)), ?_, ?_⟩
  · simp only [binV]; rw [if_neg (by omega)]; rfl
  · simp only [binV]; rw [if_pos trivial]
    refine congrArg (fun z => some (Value.int .u8 z)) (h.1.1.2.trans ?_)
    rw [flip1, UInt8.toNat_ofNat', show 2 ^ 8 = 256 from rfl, h.2]
theorem tdiv8 (i : Nat) : (i : Int).tdiv 8 = ((i / 8 : Nat) : Int) := rfl
theorem tmod8 (i : Nat) : (i : Int).tmod 8 = ((i % 8 : Nat) : Int) := rfl
section
variable {G G' : Gh} {κ μ m p lq came k : Nat} {w w' : World} {c : Csh}
theorem bat_spec {u nv : Value} {b : List UInt8} {i : Nat} (hb : HasB w u b) (hi : i / 8 < b.length) (hn : isCell nv = true) (hlen : i < 70000) :
    Calls Try.prog 64 #[.agg #[u, nv], .int .i64 i] w (Ret fun v w' => v = .bool (bitB b i) ∧ Grow w w') := by
  have huc := hb.isCell
  apply enter64
  apply R_in
  simp (maxSteps := 1000000) (disch := omega) only [↓sy1, sy2, sy3, readOK, sy5, sy6, Nat.reduceEqDiff, ↓reduceIte, sy7, sy8, sy9, sya, oneOf, syb, syc, Nat.reduceAdd, Nat.reduceMul, syd, sye, syf, syg, syh, reduceCtorEq, F64, agg2_cells huc hn]
  have hg0 : Grow w (w.alloc (.cells #[u, nv] 79)) := (Keep.refl _ _).alloc _
  have hb0 := heap_alloc_new w (.cells #[u, nv] 79)
  generalize w.alloc (.cells #[u, nv] 79) = w0 at hg0 hb0 ⊢
  obtain ⟨a, ha, hc, _⟩ := (hb.grow hg0).getB hi
  obtain ⟨z, h1, h2⟩ := shr_and (x := b[i / 8]) (i := i % 8) (by omega)
  have hc0 : w0.cell? ⟨w.heap.size, 0, none⟩ = some u := by rw [cell_block hb0]; rfl
  simp (maxSteps := 1000000) (disch := omega) only [↓sy1, sy2, sy3, readOK, sy5, sy6, Nat.reduceEqDiff, ↓reduceIte, sy7, sy8, sy9, sya, oneOf, syb, syc, Nat.reduceAdd, Nat.reduceMul, syd, sye, syf, syg, syh, reduceCtorEq, hc0, tdiv8, tmod8, ha, hc, h1, h2]
  refine R_out ⟨?_, hg0⟩
  unfold bitB
  rw [List.getD_eq_getElem?_getD, List.getElem?_eq_getElem hi, Option.getD_some]
  cases b[i / 8].toNat.testBit (i % 8) <;> rfl
set_option maxHeartbeats 1000000 in
theorem first_spec {u : Value} {b : List UInt8} {n : Nat} (hb : HasB w u b) (hn : n ≤ 8 * b.length) (hlen : b.length ≤ 100000) :
    Calls Try.prog 42 #[.agg #[u, .int .i64 n]] w (Ret fun v w' => v = .int .i64 (firstZ (bitsOf b n)) ∧ Grow w w') := by
  have huc := hb.isCell
  apply enter42
  apply R_in
  simp (maxSteps := 1000000) (disch := omega) only [↓sy1, sy2, sy3, readOK, sy5, sy6, Nat.reduceEqDiff, ↓reduceIte, sy7, sy8, sy9, sya, oneOf, syb, syc, Nat.reduceAdd, Nat.reduceMul, syd, sye, syf, syg, syh, reduceCtorEq, F42, agg2_cells huc (y := .int .i64 (n : Int)) rfl]
  have hg0 : Grow w (w.alloc (.cells #[u, .int .i64 n] 79)) := (Keep.refl _ _).alloc _
  have hb0 := heap_alloc_new w (.cells #[u, .int .i64 n] 79)
  generalize w.alloc (.cells #[u, .int .i64 n] 79) = w0 at hg0 hb0 ⊢
  have hB0 := hb.grow hg0
  have hc0 : w0.cell? ⟨w.heap.size, 0, none⟩ = some u := by rw [cell_block hb0]; rfl
  have hc1 : w0.cell? ⟨w.heap.size, 1, none⟩ = some (.int .i64 n) := by rw [cell_block hb0]; rfl
  have hl8 : ∀ w', lenF w' 0 u = some (.int .i64 b.length) := fun w' => hB0.lenB w'
  have hfound : ∀ j : Nat, j < n → bitB b j = false → (∀ i < j, bitB b i = true) → firstZ (bitsOf b n) = (j : Int) := fun j hj h1 h2 => by
    have h3 : firstN (bitsOf b n) = j := firstN_eq (fun i hi => by rw [bitsOf_get (by omega), h2 i hi]) (by rw [bitsOf_get hj, h1])
    rw [firstZ, h3, bitsOf_length, if_pos hj]
  have hnone : (∀ i < n, bitB b i = true) → firstZ (bitsOf b n) = -1 := fun h1 => by
    have h3 : firstN (bitsOf b n) = (bitsOf b n).length := firstN_none (fun i hi => by rw [bitsOf_length] at hi; rw [bitsOf_get hi, h1 i hi])
    rw [firstZ, h3, if_neg (by omega)]
  simp (maxSteps := 1000000) (disch := omega) only [↓sy1, sy2, sy3, readOK, sy5, sy6, Nat.reduceEqDiff, ↓reduceIte, sy7, sy8, sy9, sya, oneOf, syb, syc, Nat.reduceAdd, Nat.reduceMul, syd, sye, syf, syg, syh, reduceCtorEq, hc0, hl8]
  refine loop_rule (fun e w' => ∃ j : Nat, j ≤ b.length ∧ e 11 = .int .i64 j ∧ e 10 = .int .i64 b.length ∧ e 9 = u ∧ e 1 = .pointer (some ⟨w.heap.size, 0, none⟩) ∧ e 3 = .int .i64 (-1) ∧ (∀ i, i < 8 * j → i < n ∧ bitB b i = true) ∧ w0 = w') (fun e _ => b.length - (intOf (e 11)).toNat)
    ⟨0, by omega, by simp [upd, updO, ev], by simp [upd, updO, ev], by simp [upd, updO, ev], by simp [upd, updO, ev], by simp [upd, updO, ev], by omega, rfl⟩ ?_
  rintro e w' ⟨j, hj, e11, e10, e9, e1, e3, hall, rfl⟩
  by_cases hjl : j < b.length
  · obtain ⟨a, ha, hc, _⟩ := hB0.getB hjl
    simp (maxSteps := 1000000) (disch := omega) only [↓sy1, sy2, sy3, readOK, sy5, sy6, Nat.reduceEqDiff, ↓reduceIte, sy7, sy8, sy9, sya, oneOf, syb, syc, Nat.reduceAdd, Nat.reduceMul, syd, sye, syf, syg, syh, reduceCtorEq, F42_L1, e11, e10, e9, e1, e3, Int.ofNat_lt, hjl, decide_true, ha, hc]
    refine loop_rule (fun e w' => ∃ i : Nat, i ≤ 8 ∧ e 16 = .int .i64 i ∧ e 4 = .int .i64 j ∧ e 5 = .int .u8 (b[j].toNat : Int) ∧ e 11 = .int .i64 j ∧ e 10 = .int .i64 b.length ∧ e 9 = u ∧ e 1 = .pointer (some ⟨w.heap.size, 0, none⟩) ∧ e 3 = .int .i64 (-1) ∧ (∀ z, z < 8 * j + i → z < n ∧ bitB b z = true) ∧ w0 = w') (fun e _ => 8 - (intOf (e 16)).toNat)
      ⟨0, by omega, by simp [upd, updO, ev], by simp [upd, updO, ev], by simp [upd, updO, ev], by simp [upd, updO, ev, e11], by simp [upd, updO, ev, e10], by simp [upd, updO, ev, e9], by simp [upd, updO, ev, e1], by simp [upd, updO, ev, e3], by simpa using hall, rfl⟩ ?_
    rintro e w' ⟨i, hi, e16, e4, e5, e11, e10, e9, e1, e3, hall, rfl⟩
    have hm8 : (8 : Int) * (j : Int) + (i : Int) = ((8 * j + i : Nat) : Int) := by omega
    by_cases hi8 : i < 8
    · by_cases hn8 : n ≤ 8 * j + i
      · simp (maxSteps := 1000000) (disch := omega) only [↓sy1, sy2, sy3, readOK, sy5, sy6, Nat.reduceEqDiff, ↓reduceIte, sy7, sy8, sy9, sya, oneOf, syb, syc, Nat.reduceAdd, Nat.reduceMul, syd, sye, syf, syg, syh, reduceCtorEq, F42_L0, e16, e4, e5, e11, e10, e9, e1, e3, show ((i : Int) < 8) from by omega, decide_true, hc1, hm8, show ((n : Int) ≤ ((8 * j + i : Nat) : Int)) from by omega]
        exact R_out ⟨by rw [hnone (fun z hz => (hall z (by omega)).2)], hg0⟩
      · obtain ⟨z, h1, h2⟩ := shr_and (x := b[j]) (i := i) hi8
        have hbit : bitB b (8 * j + i) = b[j].toNat.testBit i := by
          unfold bitB
          rw [show (8 * j + i) / 8 = j from by omega, show (8 * j + i) % 8 = i from by omega, List.getD_eq_getElem?_getD, List.getElem?_eq_getElem hjl, Option.getD_some]
        cases ht : b[j].toNat.testBit i with
        | true =>
          rw [ht] at h2 hbit
          simp (maxSteps := 1000000) (disch := omega) only [↓sy1, sy2, sy3, readOK, sy5, sy6, Nat.reduceEqDiff, ↓reduceIte, sy7, sy8, sy9, sya, oneOf, syb, syc, Nat.reduceAdd, Nat.reduceMul, syd, sye, syf, syg, syh, reduceCtorEq, F42_L0, e16, e4, e5, e11, e10, e9, e1, e3, show ((i : Int) < 8) from by omega, decide_true, hc1, hm8, show ¬ ((n : Int) ≤ ((8 * j + i : Nat) : Int)) from by omega, decide_false, h1, h2, Int.reduceEq]
          refine R_out ⟨⟨i + 1, by omega, rfl, fun z hz => ?_⟩, by simp only [intOf]; omega⟩
          by_cases hz' : z < 8 * j + i
          · exact hall z hz'
          · rw [show z = 8 * j + i from by omega]; exact ⟨by omega, hbit⟩
        | false =>
          rw [ht] at h2 hbit
          have h2' : binV .and (.int .u8 z) (.int .u8 1) = some (.int .u8 0) := h2
          simp (maxSteps := 1000000) (disch := omega) only [↓sy1, sy2, sy3, readOK, sy5, sy6, Nat.reduceEqDiff, ↓reduceIte, sy7, sy8, sy9, sya, oneOf, syb, syc, Nat.reduceAdd, Nat.reduceMul, syd, sye, syf, syg, syh, reduceCtorEq, F42_L0, e16, e4, e5, e11, e10, e9, e1, e3, show ((i : Int) < 8) from by omega, decide_true, hc1, hm8, show ¬ ((n : Int) ≤ ((8 * j + i : Nat) : Int)) from by omega, decide_false, h1, h2']
          exact R_out ⟨by rw [hfound _ (by omega) hbit (fun z hz => (hall z hz).2)], hg0⟩
    · simp (maxSteps := 1000000) (disch := omega) only [↓sy1, sy2, sy3, readOK, sy5, sy6, Nat.reduceEqDiff, ↓reduceIte, sy7, sy8, sy9, sya, oneOf, syb, syc, Nat.reduceAdd, Nat.reduceMul, syd, sye, syf, syg, syh, reduceCtorEq, F42_L0, e16, e4, e5, e11, e10, e9, e1, e3, show ¬ ((i : Int) < 8) from by omega, decide_false]
      exact R_out ⟨⟨j + 1, by omega, rfl, fun z hz => hall z (by omega)⟩, by simp only [intOf]; omega⟩
  · simp (maxSteps := 1000000) (disch := omega) only [↓sy1, sy2, sy3, readOK, sy5, sy6, Nat.reduceEqDiff, ↓reduceIte, sy7, sy8, sy9, sya, oneOf, syb, syc, Nat.reduceAdd, Nat.reduceMul, syd, sye, syf, syg, syh, reduceCtorEq, F42_L1, e11, e10, e9, e1, e3, Int.ofNat_lt, hjl, decide_false]
    exact R_out ⟨by rw [hnone (fun z hz => (hall z (by omega)).2)], hg0⟩
end
end Go.Proofs.Ytbnecclognibaaa

/- A bit is turned; whether pages fit. -/
namespace Go.Proofs.Ytbnecclognibaaa
open Go
set_option linter.unusedSimpArgs false
open Go.RowKit (intOf)
theorem Ext.thenS {K S : Nat → Prop} {G G1 : Gh} {w w1 w2 : World} (h : Ext K G w G1 w1) (hk : Keep S w1 w2) (hg : ∀ b, S b → w.heap.size ≤ b) : Ext K G w G1 w2 :=
  ⟨hk.os.trans h.os, hk.tape.trans h.tape, hk.output.trans h.output, Nat.le_trans h.size hk.size, h.own, h.fix, h.fixe,
    fun b hb hn => (hk.blk b (Nat.lt_of_lt_of_le hb h.size) (fun hh => by have := hg b hh; omega)).trans (h.blk b hb hn), fun b i v hb hi hc => hk.cell (h.pre b i v hb hi hc) (fun hh => by have := hg _ hh; simp only at this; omega)⟩
theorem underMB : Try.prog.underlying 95 = some (.map 3 4) := by kernel_rfl
theorem flipB_bs {b : List UInt8} {i : Nat} (h : i / 8 < b.length) : (bs b).set (i / 8) (.int .u8 ((flip1 b[i / 8] (i % 8)).toNat : Int)) = bs (flipB b i) := by
  rw [flipB, List.getD_eq_getElem?_getD, List.getElem?_eq_getElem h, Option.getD_some]
  simp [bs, List.map_set]
section
variable {G G' : Gh} {κ μ m p lq came k : Nat} {w w' : World} {c : Csh}
set_option maxHeartbeats 1000000 in
theorem turn_spec (h : MapC G κ μ w m p lq came c k) {pg i : Nat} (hpg : pg = 1 ∨ pg = 2) (hi : i < 4096) (hw : c.wcode pg 512 = 0) :
    Calls Try.prog 43 #[.pointer (some ⟨m, 0, none⟩), .int .i64 pg, .int .i64 i] w (Ret fun v w' => ∃ G', MapC G' κ μ w' m p lq came (c.write pg (flipB (c.page pg) i)) k ∧ Ext (fun x => x = μ) G w G' w') := by
  have hn3 := h.n3
  have hpl := h.cache.oks.plen (n := pg) (by omega)
  have hib : i / 8 < (c.page pg).length := by omega
  apply enter43
  apply R_in
  simp (maxSteps := 1000000) (disch := omega) only [↓sy1, sy2, sy3, readOK, sy5, sy6, Nat.reduceEqDiff, ↓reduceIte, sy7, sy8, sy9, sya, oneOf, syb, syc, Nat.reduceAdd, Nat.reduceMul, syd, sye, syf, syg, syh, reduceCtorEq, F43]
  refine call0 (mread_spec h hpg) ?_
  rintro _ w1 ⟨u, G1, rfl, hu, hub, h1, hx1⟩
  have huc := (Has.own hu).isCell
  have hg2 : Grow w1 (w1.alloc (.cells (Value.agg #[.slice none 0 0, .int .i64 0]).cells 79)) := (Keep.refl _ _).alloc _
  have hb2 := heap_alloc_new w1 (.cells (Value.agg #[.slice none 0 0, .int .i64 0]).cells 79)
  simp (maxSteps := 1000000) (disch := omega) only [↓sy1, sy2, sy3, readOK, sy5, sy6, Nat.reduceEqDiff, ↓reduceIte, sy7, sy8, sy9, sya, oneOf, syb, syc, Nat.reduceAdd, Nat.reduceMul, syd, sye, syf, syg, syh, reduceCtorEq]
  rw [agg2_cells (x := .slice none 0 0) (y := .int .i64 0) rfl rfl] at hg2 hb2 ⊢
  generalize w1.alloc (.cells #[.slice none 0 0, .int .i64 0] 79) = w2 at hg2 hb2 ⊢
  obtain ⟨w3, hst, hb3, hk3⟩ := stn2 (x := u) (y := .int .i64 (nbits c k pg)) hb2 huc rfl
  have hlt1 : ∀ b, u.ownBlock = some b → b < w1.heap.size := fun b hb => (World.ownsRow.lt hu b hb).2
  have hg3 : Grow w1 w3 := hg2.then hk3 (fun b hb hh => by omega)
  simp (maxSteps := 1000000) (disch := omega) only [↓sy1, sy2, sy3, readOK, sy5, sy6, Nat.reduceEqDiff, ↓reduceIte, sy7, sy8, sy9, sya, oneOf, syb, syc, Nat.reduceAdd, Nat.reduceMul, syd, sye, syf, syg, syh, reduceCtorEq, hst]
  refine draw43_0 (fun _ => False) ?_
  have hg4 := hg3.drew
  have hb4 : w3.drew.heap[w1.heap.size]? = _ := hb3
  generalize hw4 : w3.drew = w4 at hg4 hb4 ⊢
  have hu4 := own_grow hu hg4
  have hc4 : w4.cell? ⟨w1.heap.size, 0, none⟩ = some u := by rw [cell_block hb4]; rfl
  obtain ⟨a0, w5, ha0, hst5, ho5, hk5, hbk⟩ := own_store hu4 (i := i / 8) (by omega) (u := .int .u8 ((flip1 (c.page pg)[i / 8] (i % 8)).toNat : Int)) rfl
  obtain ⟨a, ha, hca, _⟩ := (Has.own hu4).getB hib
  obtain ⟨z, hz1, hz2⟩ := shl_xor (x := (c.page pg)[i / 8]) (i := i % 8) (by omega)
  rw [ha] at ha0
  cases ha0
  rw [flipB_bs hib] at ho5
  simp (maxSteps := 1000000) (disch := omega) only [↓sy1, sy2, sy3, readOK, sy5, sy6, Nat.reduceEqDiff, ↓reduceIte, sy7, sy8, sy9, sya, oneOf, syb, syc, Nat.reduceAdd, Nat.reduceMul, syd, sye, syf, syg, syh, reduceCtorEq, PL43_0, hc4, tdiv8, tmod8, ha, hca, hz1, hz2, hst5]
  refine draw43_1 (fun _ => False) ?_
  have h5 : MapC G1 κ μ w5 m p lq came c k := (h1.grow hg4).ext (.onS0 hk5 (fun b hb => hub b hb)) h.ne.1 h.ne.2 (by omega)
  have hb5 := hk5.heap hb4 (fun hh => by have := hlt1 _ hh; omega)
  have hgd : Grow w5 w5.drew := (Keep.refl _ _).drew
  have h6 := h5.grow hgd
  have ho6 := own_grow ho5 hgd
  have hb6 := hgd.gheap hb5
  have hx6 : Ext (fun x => x = μ) G w G1 w5.drew := ((hx1.trans (.grow hg4)).thenS hk5 (fun b hb => (World.ownsRow.lt hu b hb).1)).drew
  generalize w5.drew = w6 at hgd h6 ho6 hb6 hx6 ⊢
  have hc6 : w6.cell? ⟨w1.heap.size, 0, none⟩ = some u := by rw [cell_block hb6]; rfl
  simp (maxSteps := 1000000) (disch := omega) only [↓sy1, sy2, sy3, readOK, sy5, sy6, Nat.reduceEqDiff, ↓reduceIte, sy7, sy8, sy9, sya, oneOf, syb, syc, Nat.reduceAdd, Nat.reduceMul, syd, sye, syf, syg, syh, reduceCtorEq, PL43_1, h6.cells, hc6]
  refine call0 (cswrite_spec h6.cache (n := pg) (b := flipB (c.page pg) i) (Has.own ho6) (by rw [flipB_length]; omega)) ?_
  rintro _ w7 ⟨rfl, G7, hc7, hx7⟩
  simp (maxSteps := 1000000) (disch := omega) only [↓sy1, sy2, sy3, readOK, sy5, sy6, Nat.reduceEqDiff, ↓reduceIte, sy7, sy8, sy9, sya, oneOf, syb, syc, Nat.reduceAdd, Nat.reduceMul, syd, sye, syf, syg, syh, reduceCtorEq]
  rw [flipB_length, hpl, hw] at hc7
  exact R_out ⟨G7, h6.put hx7 (fun hh => h.cache.ne.2.1 hh.symm) hc7 rfl, hx6.trans hx7⟩
set_option maxHeartbeats 1000000 in
theorem fits_spec (h : MapC G κ μ w m p lq came c k) {lv : Value} {l : List Int} (hl : HasI w lv l) (hll : l.length ≤ 100000) :
    Calls Try.prog 32 #[.pointer (some ⟨m, 0, none⟩), lv] w (Ret fun v w' => v = .bool (c.fits l) ∧ Grow w w') := by
  have hroom := h.cache.oks.room
  have hnine := h.nine
  have hcap : c.cap ≤ 100 := by simp only [Csh.cap]; omega
  have hdl : (zs c.dirty).length = c.dirty.length := by simp [zs]
  apply enter32
  apply R_in
  have hg0 : Grow w (w.alloc (.map #[] 0)) := (Keep.refl _ _).alloc _
  have hb0 := heap_alloc_new w (.map #[] 0)
  have hs0 : (w.alloc (.map #[] 0)).heap.size = w.heap.size + 1 := by simp
  simp (maxSteps := 1000000) (disch := omega) only [↓sy1, sy2, sy3, readOK, sy5, sy6, Nat.reduceEqDiff, ↓reduceIte, sy7, sy8, sy9, sya, oneOf, syb, syc, Nat.reduceAdd, Nat.reduceMul, syd, sye, syf, syg, syh, reduceCtorEq, F32, (h.grow hg0).cells.1]
  generalize w.alloc (.map #[] 0) = w0 at hg0 hb0 hs0 ⊢
  refine call0 (csdirty_spec (h.grow hg0).cache) ?_
  rintro dv w1 ⟨hdv, hg1⟩
  have hK1 : KMap w1 w.heap.size [] := .new (hg1.gheap hb0)
  have hlen : ∀ w', lenF w' 0 dv = some (.int .i64 c.dirty.length) := fun w' => by
    rw [(Has.own hdv).lenI, hdl]
  simp (maxSteps := 1000000) (disch := omega) only [↓sy1, sy2, sy3, readOK, sy5, sy6, Nat.reduceEqDiff, ↓reduceIte, sy7, sy8, sy9, sya, oneOf, syb, syc, Nat.reduceAdd, Nat.reduceMul, syd, sye, syf, syg, syh, reduceCtorEq, hlen]
  refine loop_rule (fun e w' => ∃ i : Nat, i ≤ c.dirty.length ∧ e 18 = .int .i64 i ∧ e 17 = .int .i64 c.dirty.length ∧ e 16 = dv ∧ e 5 = .map (some w.heap.size) ∧ e 1 = lv ∧ e 0 = .pointer (some ⟨m, 0, none⟩) ∧ Grow w w' ∧ KMap w' w.heap.size (((zs c.dirty).take i).foldl insK []) ∧ w'.ownsRow w0.heap.size 3 1 dv c.dirty.length (ints (zs c.dirty))) (fun e _ => c.dirty.length - (intOf (e 18)).toNat)
    ⟨0, by omega, by simp [upd, updO, ev], by simp [upd, updO, ev], by simp [upd, updO, ev], by simp [upd, updO, ev], by simp [upd, updO, ev], by simp [upd, updO, ev], hg0.trans hg1, hK1, hdv⟩ ?_
  rintro e w2 ⟨i, hi, e18, e17, e16, e5, e1, e0, hg2, hK2, hd2⟩
  by_cases hlt : i < c.dirty.length
  · obtain ⟨a, ha, hc, _⟩ := (Has.own hd2).getI (i := i) (by omega)
    simp (maxSteps := 1000000) (disch := omega) only [↓sy1, sy2, sy3, readOK, sy5, sy6, Nat.reduceEqDiff, ↓reduceIte, sy7, sy8, sy9, sya, oneOf, syb, syc, Nat.reduceAdd, Nat.reduceMul, syd, sye, syf, syg, syh, reduceCtorEq, F32_L0, e18, e17, e16, e5, e1, e0, Int.ofNat_lt, hlt, decide_true, ha, hc]
    refine hK2.put (n := (zs c.dirty)[i]) (v := .bool true) (by simp only [upd_at, Nat.reduceEqDiff, reduceIte, ev_tmp, ev_const, List.map_cons, List.map_nil]) (by simp only [upd_at, Nat.reduceEqDiff, reduceIte, ev_tmp, ev_const, List.map_cons, List.map_nil]) (by simp only [upd_at, Nat.reduceEqDiff, reduceIte, ev_tmp, ev_const, List.map_cons, List.map_nil]) underMB underI (fun w3 hk3 hK3 => ?_)
    simp (maxSteps := 1000000) (disch := omega) only [↓sy1, sy2, sy3, readOK, sy5, sy6, Nat.reduceEqDiff, ↓reduceIte, sy7, sy8, sy9, sya, oneOf, syb, syc, Nat.reduceAdd, Nat.reduceMul, syd, sye, syf, syg, syh, reduceCtorEq, e18, e17, e16, e5, e1, e0]
    refine R_out ⟨⟨i + 1, by omega, rfl, hg2.then hk3 (fun b hb hh => by omega), ?_, own_keep hd2 hk3 (fun b hb hh => by have := (World.ownsRow.lt hd2 b hb).1; omega)⟩, by simp only [intOf]; omega⟩
    rw [fold_take (by omega)]; exact hK3
  have hie : i = c.dirty.length := by omega
  subst hie
  rw [← hdl, List.take_length] at hK2
  have hnd : ((zs c.dirty)).foldl insK [] = zs c.dirty := by
    rw [fold_nodup _ _ (by rw [List.nil_append]; exact zs_nodup (nodup_lt (keysQ_rise _ _)))]; simp
  rw [hnd] at hK2
  have hl2 := hl.grow hg2
  have hlenl : ∀ w', lenF w' 0 lv = some (.int .i64 l.length) := fun w' => hl.lenI w'
  have hK2l := hK2.len
  rw [hdl] at hK2l
  simp (maxSteps := 1000000) (disch := omega) only [↓sy1, sy2, sy3, readOK, sy5, sy6, Nat.reduceEqDiff, ↓reduceIte, sy7, sy8, sy9, sya, oneOf, syb, syc, Nat.reduceAdd, Nat.reduceMul, syd, sye, syf, syg, syh, reduceCtorEq, F32_L0, e18, e17, e16, e5, e1, e0, Int.ofNat_lt, Nat.lt_irrefl, decide_false, hK2l, hlenl]
  clear hd2 e18 e17 e16
  refine loop_rule (fun e w' => ∃ i : Nat, i ≤ l.length ∧ e 29 = .int .i64 i ∧ e 28 = .int .i64 l.length ∧ e 27 = lv ∧ e 5 = .map (some w.heap.size) ∧ e 8 = .int .i64 c.dirty.length ∧ e 0 = .pointer (some ⟨m, 0, none⟩) ∧ Grow w w' ∧ KMap w' w.heap.size ((l.take i).foldl insK (zs c.dirty))) (fun e _ => l.length - (intOf (e 29)).toNat)
    ⟨0, by omega, by simp [upd, updO, ev], by simp [upd, updO, ev], by simp [upd, updO, ev], by simp [upd, updO, ev, e5], by simp [upd, updO, ev], by simp [upd, updO, ev, e0], hg2, hK2⟩ ?_
  rintro e w3 ⟨i, hi, e29, e28, e27, e5, e8, e0, hg3, hK3⟩
  by_cases hlt : i < l.length
  · obtain ⟨a, ha, hc, _⟩ := (hl.grow hg3).getI (i := i) hlt
    simp (maxSteps := 1000000) (disch := omega) only [↓sy1, sy2, sy3, readOK, sy5, sy6, Nat.reduceEqDiff, ↓reduceIte, sy7, sy8, sy9, sya, oneOf, syb, syc, Nat.reduceAdd, Nat.reduceMul, syd, sye, syf, syg, syh, reduceCtorEq, F32_L1, e29, e28, e27, e5, e8, e0, Int.ofNat_lt, hlt, decide_true, ha, hc]
    refine hK3.put (n := l[i]) (v := .bool true) (by simp only [upd_at, Nat.reduceEqDiff, reduceIte, ev_tmp, ev_const, List.map_cons, List.map_nil]) (by simp only [upd_at, Nat.reduceEqDiff, reduceIte, ev_tmp, ev_const, List.map_cons, List.map_nil]) (by simp only [upd_at, Nat.reduceEqDiff, reduceIte, ev_tmp, ev_const, List.map_cons, List.map_nil]) underMB underI (fun w4 hk4 hK4 => ?_)
    simp (maxSteps := 1000000) (disch := omega) only [↓sy1, sy2, sy3, readOK, sy5, sy6, Nat.reduceEqDiff, ↓reduceIte, sy7, sy8, sy9, sya, oneOf, syb, syc, Nat.reduceAdd, Nat.reduceMul, syd, sye, syf, syg, syh, reduceCtorEq, e29, e28, e27, e5, e8, e0]
    refine R_out ⟨⟨i + 1, by omega, rfl, hg3.then hk4 (fun b hb hh => by omega), ?_⟩, by simp only [intOf]; omega⟩
    rw [fold_take hlt]; exact hK4
  have hie : i = l.length := by omega
  subst hie
  rw [List.take_length] at hK3
  simp (maxSteps := 1000000) (disch := omega) only [↓sy1, sy2, sy3, readOK, sy5, sy6, Nat.reduceEqDiff, ↓reduceIte, sy7, sy8, sy9, sya, oneOf, syb, syc, Nat.reduceAdd, Nat.reduceMul, syd, sye, syf, syg, syh, reduceCtorEq, F32_L1, e29, e28, e27, e5, e8, e0, Int.ofNat_lt, Nat.lt_irrefl, decide_false]
  refine draw32_0 (fun _ => False) ?_
  have hgd : Grow w3 w3.drew := (Keep.refl _ _).drew
  have hK4 := hK3.keep hgd id
  have h4 := (h.grow hg3).grow hgd
  have hg4 := hg3.trans hgd
  generalize w3.drew = w4 at hgd hK4 h4 hg4 ⊢
  have hlen4 := hK4.len
  have hfl : (fitK c l).length ≤ 100000 + 100 := by
    have := fold_length l (zs c.dirty)
    unfold fitK; omega
  have hfd : c.dirty.length ≤ (fitK c l).length := by
    have := fold_length l (zs c.dirty)
    unfold fitK; omega
  rw [show (l.foldl insK (zs c.dirty)) = fitK c l from rfl] at hlen4
  simp (maxSteps := 1000000) (disch := omega) only [↓sy1, sy2, sy3, readOK, sy5, sy6, Nat.reduceEqDiff, ↓reduceIte, sy7, sy8, sy9, sya, oneOf, syb, syc, Nat.reduceAdd, Nat.reduceMul, syd, sye, syf, syg, syh, reduceCtorEq, PL32_0, e5, e8, e0, h4.cells.1, hlen4]
  refine ⟨Keep.refl _ _, call0 (csroom_spec h4.cache) ?_⟩
  rintro _ w5 ⟨rfl, hg5⟩
  simp (maxSteps := 1000000) (disch := omega) only [↓sy1, sy2, sy3, readOK, sy5, sy6, Nat.reduceEqDiff, ↓reduceIte, sy7, sy8, sy9, sya, oneOf, syb, syc, Nat.reduceAdd, Nat.reduceMul, syd, sye, syf, syg, syh, reduceCtorEq]
  refine R_out ⟨?_, hg4.trans hg5⟩
  unfold Csh.fits
  exact decide_eq_decide.2 (by omega)
end
end Go.Proofs.Ytbnecclognibaaa

/- A page, an inode is taken; one is given back. -/
namespace Go.Proofs.Ytbnecclognibaaa
open Go
set_option linter.unusedSimpArgs false
open Go.RowKit (intOf)
theorem HasI_block1 {w : World} {b : Nat} {x : Int} {t : TypeId} {f : Nat × Nat} (h : w.heap[b]? = some (.cells #[.int .i64 x] t f)) : HasI w (.slice (some ⟨b, 0, none⟩) 1 1) [x] :=
  .inl ⟨b, 0, 1, 1, rfl, rfl, by omega, fun j u hj => by
    rcases j with _ | j
    · simp [ints] at hj; subst hj; rw [cell_block h]; rfl
    · simp [ints] at hj⟩
theorem HasI_block2 {w : World} {b : Nat} {x y : Int} {t : TypeId} {f : Nat × Nat} (h : w.heap[b]? = some (.cells #[.int .i64 x, .int .i64 y] t f)) : HasI w (.slice (some ⟨b, 0, none⟩) 2 2) [x, y] :=
  .inl ⟨b, 0, 2, 2, rfl, rfl, by omega, fun j u hj => by
    rcases j with _ | _ | j
    · simp [ints] at hj; subst hj; rw [cell_block h]; rfl
    · simp [ints] at hj; subst hj; rw [cell_block h]; rfl
    · simp [ints] at hj⟩
/-- 512 zeros are made. -/
theorem mkz_rule {k : Kont} {e : Env} {w : World} {l : List GOp} {d : Option Nat} (hh : ∀ v w', Grow w w' → w'.ownsRow w.heap.size 5 1 v 512 (bs zsec) → R (symOps Try.prog l k (updO e d v) w')) :
    R (symOps Try.prog (⟨d, .hard (H (.makeSlice 29 (.const (.int .i64 512)) (.const (.int .i64 512))) 29), none⟩ :: l) k e w) := by
  refine mk_rule elemB (kx := .i64) (ky := .i64) (a := 512) (c := 512) rfl rfl (by omega) (by omega) (by omega) (by omega) rfl ?_
  refine hh _ _ ((Keep.refl _ _).alloc _) ?_
  have ho7 := own_made w w.heap.size (Nat.le_refl _) 5 (512 : Int).toNat (by decide) (.int .u8 0)
  rw [bs_zsec]; exact ho7
section
variable {G G' : Gh} {κ μ m p lq came k : Nat} {w w' : World} {c : Csh} {P I : List Bool}
theorem mem_dirty {n : Nat} (hn : n < c.N) : n ∈ c.dirty ↔ c.q n ≠ none := by
  rw [Csh.dirty, mem_keysQ]
  constructor
  · rintro ⟨_, b, hb⟩; rw [hb]; simp
  · intro h
    cases hq : c.q n with
    | none => exact absurd hq h
    | some b => exact ⟨hn, b, rfl⟩
theorem mem_zs {l : List Nat} {n : Nat} : (n : Int) ∈ zs l ↔ n ∈ l := by
  simp only [zs, List.mem_map]
  exact ⟨fun ⟨a, ha, hae⟩ => by have : a = n := by omega
                                subst this; exact ha, fun h => ⟨n, h, rfl⟩⟩
theorem wcode_zero {n : Nat} {len : Nat} (hn : n < c.N) (hl : len = 512) (h : c.q n = none → c.dirty.length < c.cap) : c.wcode n len = 0 := by
  unfold Csh.wcode
  rw [if_neg (by omega), if_neg (by omega), if_neg]
  rintro ⟨h1, h2⟩
  have := h (by simpa using h1); omega
theorem zs_len (l : List Nat) : (zs l).length = l.length := by simp [zs]
theorem fits1 {n : Nat} (h : c.fits [(n : Int)] = true) (hn : n < c.N) : c.wcode n 512 = 0 := by
  refine wcode_zero hn rfl fun hq => ?_
  have h : (insK (zs c.dirty) (n : Int)).length ≤ c.cap := of_decide_eq_true h
  have h1 : (n : Int) ∉ zs c.dirty := fun hm => (mem_dirty hn).1 (mem_zs.1 hm) hq
  rw [insK, if_neg h1, List.length_append, zs_len] at h
  simp at h; omega
theorem write_dirty {n : Nat} {b : List UInt8} (hn : n < c.N) : (c.write n b).dirty.length = c.dirty.length + if (c.q n).isSome then 0 else 1 := keysQ_put (N := c.N) (q := c.q) hn
theorem fits2 {n : Nat} (h : c.fits [2, (n : Int)] = true) (h2 : 2 < c.N) (hn : n < c.N) (hne : n ≠ 2) (b : List UInt8) : c.wcode 2 512 = 0 ∧ (c.write 2 b).wcode n 512 = 0 := by
  have h : (insK (insK (zs c.dirty) 2) (n : Int)).length ≤ c.cap := of_decide_eq_true h
  have e2 : ((2 : Nat) : Int) = 2 := rfl
  have hm2 := insK_length (zs c.dirty) 2
  have hmn := insK_length (insK (zs c.dirty) 2) n
  have hi2 : c.q 2 = none → (insK (zs c.dirty) 2).length = c.dirty.length + 1 := fun hq => by
    have h1 : (2 : Int) ∉ zs c.dirty := fun hm => (mem_dirty h2).1 (mem_zs.1 (e2 ▸ hm)) hq
    rw [insK, if_neg h1, List.length_append, zs_len]; rfl
  have hin : c.q n = none → (insK (insK (zs c.dirty) 2) n).length = (insK (zs c.dirty) 2).length + 1 := fun hq => by
    have h1 : (n : Int) ∉ insK (zs c.dirty) 2 := fun hm => by
      have h3 : (n : Int) ∈ zs c.dirty := by
        unfold insK at hm
        split at hm
        · exact hm
        · rcases List.mem_append.1 hm with hm | hm
          · exact hm
          · simp at hm; omega
      exact (mem_dirty hn).1 (mem_zs.1 h3) hq
    rw [insK, if_neg h1, List.length_append]; rfl
  rw [zs_len] at hm2
  refine ⟨wcode_zero h2 rfl fun hq => ?_, wcode_zero (c := c.write 2 b) hn rfl fun hq => ?_⟩
  · have := hi2 hq; omega
  · have hq' : c.q n = none := by simpa [Csh.write, qput, hne] using hq
    have h3 := hin hq'
    rw [write_dirty h2, show (c.write 2 b).cap = c.cap from rfl]
    cases hq2 : c.q 2 with
    | none => have := hi2 hq2; simp; omega
    | some b' => simp; omega
/-- The map, and what is taken. -/
def MapAt (G : Gh) (κ μ : Nat) (w : World) (m p lq came : Nat) (c : Csh) (P I : List Bool) : Prop := MapC G κ μ w m p lq came c I.length ∧ Alc c P I
theorem MapAt.ext {K : Nat → Prop} (h : MapAt G κ μ w m p lq came c P I) (hx : Ext K G w G' w') (hk : ¬ K κ) (hm : ¬ K μ) (h0 : ¬ K 0) : MapAt G' κ μ w' m p lq came c P I := ⟨h.1.ext hx hk hm h0, h.2⟩
theorem MapAt.grow (h : MapAt G κ μ w m p lq came c P I) (hg : Grow w w') : MapAt G κ μ w' m p lq came c P I := ⟨h.1.grow hg, h.2⟩
theorem MapAt.facts (h : MapAt G κ μ w m p lq came c P I) : 8 ≤ I.length ∧ I.length ≤ 512 ∧ I.length % 8 = 0 ∧ c.N ≤ 4096 ∧ 3 + I.length / 8 < c.N ∧ P.length = c.N ∧ (c.page 1).length = 512 ∧ (c.page 2).length = 512 := by
  have h1 := h.2.may
  have hn := h.1.n3
  unfold mayA at h1
  exact ⟨by omega, by omega, by omega, by omega, by omega, h.2.plen, h.1.cache.oks.plen (by omega), h.1.cache.oks.plen (by omega)⟩
/-- What Page answers, and leaves. -/
def PageR (G : Gh) (κ μ : Nat) (w : World) (m p lq came : Nat) (c : Csh) (P I : List Bool) (v : Value) : Prop :=
  (v = .tuple #[.int .i64 0, .int .i64 7] ∧ (firstN P < P.length → c.fits [2, (firstN P : Int)] = false) ∧ MapAt G κ μ w m p lq came c P I) ∨
  (v = .tuple #[.int .i64 (firstN P), .int .i64 0] ∧ firstN P < P.length ∧ c.fits [2, (firstN P : Int)] = true ∧ MapAt G κ μ w m p lq came (c.taken (firstN P)) (P.set (firstN P) true) I)
set_option maxHeartbeats 1000000 in
theorem page_spec (h : MapAt G κ μ w m p lq came c P I) :
    Calls Try.prog 15 #[.pointer (some ⟨m, 0, none⟩)] w (Ret fun v w' => ∃ G', Ext (fun x => x = μ) G w G' w' ∧ PageR G' κ μ w' m p lq came c P I v) := by
  obtain ⟨f1, f2, f3, f4, f5, f6, f7, f8⟩ := h.facts
  have hne := h.1.cache.ne
  apply enter15
  apply R_in
  simp (maxSteps := 1000000) (disch := omega) only [↓sy1, sy2, sy3, readOK, sy5, sy6, Nat.reduceEqDiff, ↓reduceIte, sy7, sy8, sy9, sya, oneOf, syb, syc, Nat.reduceAdd, Nat.reduceMul, syd, sye, syf, syg, syh, reduceCtorEq, F15]
  refine call0 (mread_spec h.1 (pg := 2) (.inr rfl)) ?_
  rintro _ w1 ⟨u, G1, rfl, hu, _, h1, hx1⟩
  rw [show nbits c I.length 2 = c.N from rfl]
  simp (maxSteps := 1000000) (disch := omega) only [↓sy1, sy2, sy3, readOK, sy5, sy6, Nat.reduceEqDiff, ↓reduceIte, sy7, sy8, sy9, sya, oneOf, syb, syc, Nat.reduceAdd, Nat.reduceMul, syd, sye, syf, syg, syh, reduceCtorEq]
  refine call0 (first_spec (b := c.page 2) (n := c.N) (Has.own hu) (by omega) (by omega)) ?_
  rintro _ w2 ⟨rfl, hg2⟩
  rw [h.2.p]
  by_cases hlt : firstN P < P.length
  · rw [show firstZ P = (firstN P : Int) from if_pos hlt]
    have h2 := h1.grow hg2
    simp (maxSteps := 1000000) (disch := omega) only [↓sy1, sy2, sy3, readOK, sy5, sy6, Nat.reduceEqDiff, ↓reduceIte, sy7, sy8, sy9, sya, oneOf, syb, syc, Nat.reduceAdd, Nat.reduceMul, syd, sye, syf, syg, syh, reduceCtorEq, show ¬ ((firstN P : Int) < 0) from by omega, decide_false, fill_gen, fillF_2 (u := .int .i64 2) (v := .int .i64 (firstN P : Int)) rfl rfl]
    have hg3 : Grow w2 (w2.alloc (.cells #[.int .i64 2, .int .i64 (firstN P : Int)] 3)) := (Keep.refl _ _).alloc _
    have hb3 := heap_alloc_new w2 (.cells #[.int .i64 2, .int .i64 (firstN P : Int)] 3)
    generalize w2.alloc (.cells #[.int .i64 2, .int .i64 (firstN P : Int)] 3) = w3 at hg3 hb3 ⊢
    have h3 := h2.grow hg3
    refine call0 (fits_spec h3 (l := [2, (firstN P : Int)]) (HasI_block2 hb3) (by simp)) ?_
    rintro _ w4 ⟨rfl, hg4⟩
    have h4 := h3.grow hg4
    have hx4 : Ext (fun x => x = μ) G w G1 w4 := ((hx1.trans (.grow hg2)).trans (.grow hg3)).trans (.grow hg4)
    cases hf : c.fits [2, (firstN P : Int)] with
    | false =>
      simp (maxSteps := 1000000) (disch := omega) only [↓sy1, sy2, sy3, readOK, sy5, sy6, Nat.reduceEqDiff, ↓reduceIte, sy7, sy8, sy9, sya, oneOf, syb, syc, Nat.reduceAdd, Nat.reduceMul, syd, sye, syf, syg, syh, reduceCtorEq]
      exact R_out ⟨G1, hx4, Or.inl ⟨rfl, fun _ => hf, h4, h.2⟩⟩
    | true =>
      have hfirst := h.2.first
      obtain ⟨hw1, hw2⟩ := fits2 (n := firstN P) hf (by omega) (by omega) (by omega) (flipB (c.page 2) (firstN P))
      simp (maxSteps := 1000000) (disch := omega) only [↓sy1, sy2, sy3, readOK, sy5, sy6, Nat.reduceEqDiff, ↓reduceIte, sy7, sy8, sy9, sya, oneOf, syb, syc, Nat.reduceAdd, Nat.reduceMul, syd, sye, syf, syg, syh, reduceCtorEq]
      refine call0 (turn_spec h4 (pg := 2) (i := firstN P) (.inr rfl) (by omega) hw1) ?_
      rintro _ w5 ⟨G5, h5, hx5⟩
      simp (maxSteps := 1000000) (disch := omega) only [↓sy1, sy2, sy3, readOK, sy5, sy6, Nat.reduceEqDiff, ↓reduceIte, sy7, sy8, sy9, sya, oneOf, syb, syc, Nat.reduceAdd, Nat.reduceMul, syd, sye, syf, syg, syh, reduceCtorEq]
      refine draw15_0 (fun _ => False) ?_
      have hgd : Grow w5 w5.drew := (Keep.refl _ _).drew
      have h6 := h5.grow hgd
      have hx6 := (hx4.trans hx5).trans (.grow hgd)
      generalize w5.drew = w6 at hgd h6 hx6 ⊢
      simp (maxSteps := 1000000) (disch := omega) only [↓sy1, sy2, sy3, readOK, sy5, sy6, Nat.reduceEqDiff, ↓reduceIte, sy7, sy8, sy9, sya, oneOf, syb, syc, Nat.reduceAdd, Nat.reduceMul, syd, sye, syf, syg, syh, reduceCtorEq, PL15_0, h6.cells.1]
      refine mkz_rule (fun zv w7 hg7 hz => ?_)
      have h7 := h6.grow hg7
      have hx7 := hx6.trans (.grow hg7)
      simp (maxSteps := 1000000) (disch := omega) only [↓sy1, sy2, sy3, readOK, sy5, sy6, Nat.reduceEqDiff, ↓reduceIte, sy7, sy8, sy9, sya, oneOf, syb, syc, Nat.reduceAdd, Nat.reduceMul, syd, sye, syf, syg, syh, reduceCtorEq]
      refine ⟨hg7, ?_⟩
      refine call0 (cswrite_spec h7.cache (n := firstN P) (b := zsec) (Has.own hz) (by rw [zsec_length]; omega)) ?_
      rintro _ w8 ⟨rfl, G8, hc8, hx8⟩
      rw [zsec_length, if_pos hw2] at hc8
      simp (maxSteps := 1000000) (disch := omega) only [↓sy1, sy2, sy3, readOK, sy5, sy6, Nat.reduceEqDiff, ↓reduceIte, sy7, sy8, sy9, sya, oneOf, syb, syc, Nat.reduceAdd, Nat.reduceMul, syd, sye, syf, syg, syh, reduceCtorEq]
      exact R_out ⟨G8, hx7.trans hx8, Or.inr ⟨rfl, hlt, hf, h7.put hx8 (fun hh => hne.2.1 hh.symm) hc8 rfl, h.2.taken f8 hlt⟩⟩
  · rw [show firstZ P = -1 from if_neg hlt]
    simp (maxSteps := 1000000) (disch := omega) only [↓sy1, sy2, sy3, readOK, sy5, sy6, Nat.reduceEqDiff, ↓reduceIte, sy7, sy8, sy9, sya, oneOf, syb, syc, Nat.reduceAdd, Nat.reduceMul, syd, sye, syf, syg, syh, reduceCtorEq, show ((-1 : Int) < 0) from by omega, decide_true]
    exact R_out ⟨G1, hx1.trans (.grow hg2), Or.inl ⟨rfl, fun h => absurd h hlt, h1.grow hg2, h.2⟩⟩
/-- What Inode answers, and leaves. -/
def InodeR (G : Gh) (κ μ : Nat) (w : World) (m p lq came : Nat) (c : Csh) (P I : List Bool) (v : Value) : Prop :=
  (v = .tuple #[.int .i64 0, .int .i64 7] ∧ (firstN I < I.length → c.fits [1] = false) ∧ MapAt G κ μ w m p lq came c P I) ∨
  (v = .tuple #[.int .i64 (firstN I), .int .i64 0] ∧ firstN I < I.length ∧ c.fits [1] = true ∧ MapAt G κ μ w m p lq came (c.turnI (firstN I)) P (I.set (firstN I) true))
set_option maxHeartbeats 1000000 in
theorem inode_spec (h : MapAt G κ μ w m p lq came c P I) :
    Calls Try.prog 19 #[.pointer (some ⟨m, 0, none⟩)] w (Ret fun v w' => ∃ G', Ext (fun x => x = μ) G w G' w' ∧ InodeR G' κ μ w' m p lq came c P I v) := by
  obtain ⟨f1, f2, f3, f4, f5, f6, f7, f8⟩ := h.facts
  have hne := h.1.cache.ne
  apply enter19
  apply R_in
  simp (maxSteps := 1000000) (disch := omega) only [↓sy1, sy2, sy3, readOK, sy5, sy6, Nat.reduceEqDiff, ↓reduceIte, sy7, sy8, sy9, sya, oneOf, syb, syc, Nat.reduceAdd, Nat.reduceMul, syd, sye, syf, syg, syh, reduceCtorEq, F19]
  refine call0 (mread_spec h.1 (pg := 1) (.inl rfl)) ?_
  rintro _ w1 ⟨u, G1, rfl, hu, _, h1, hx1⟩
  rw [show nbits c I.length 1 = I.length from rfl]
  simp (maxSteps := 1000000) (disch := omega) only [↓sy1, sy2, sy3, readOK, sy5, sy6, Nat.reduceEqDiff, ↓reduceIte, sy7, sy8, sy9, sya, oneOf, syb, syc, Nat.reduceAdd, Nat.reduceMul, syd, sye, syf, syg, syh, reduceCtorEq]
  refine call0 (first_spec (b := c.page 1) (n := I.length) (Has.own hu) (by omega) (by omega)) ?_
  rintro _ w2 ⟨rfl, hg2⟩
  rw [h.2.i]
  by_cases hlt : firstN I < I.length
  · rw [show firstZ I = (firstN I : Int) from if_pos hlt]
    have h2 := h1.grow hg2
    simp (maxSteps := 1000000) (disch := omega) only [↓sy1, sy2, sy3, readOK, sy5, sy6, Nat.reduceEqDiff, ↓reduceIte, sy7, sy8, sy9, sya, oneOf, syb, syc, Nat.reduceAdd, Nat.reduceMul, syd, sye, syf, syg, syh, reduceCtorEq, show ¬ ((firstN I : Int) < 0) from by omega, decide_false]
    have hg3 : Grow w2 (w2.alloc (.cells #[.int .i64 1] 3)) := (Keep.refl _ _).alloc _
    have hb3 := heap_alloc_new w2 (.cells #[.int .i64 1] 3)
    generalize w2.alloc (.cells #[.int .i64 1] 3) = w3 at hg3 hb3 ⊢
    have h3 := h2.grow hg3
    refine call0 (fits_spec h3 (l := [1]) (HasI_block1 hb3) (by simp)) ?_
    rintro _ w4 ⟨rfl, hg4⟩
    have h4 := h3.grow hg4
    have hx4 : Ext (fun x => x = μ) G w G1 w4 := ((hx1.trans (.grow hg2)).trans (.grow hg3)).trans (.grow hg4)
    cases hf : c.fits [1] with
    | false =>
      simp (maxSteps := 1000000) (disch := omega) only [↓sy1, sy2, sy3, readOK, sy5, sy6, Nat.reduceEqDiff, ↓reduceIte, sy7, sy8, sy9, sya, oneOf, syb, syc, Nat.reduceAdd, Nat.reduceMul, syd, sye, syf, syg, syh, reduceCtorEq]
      exact R_out ⟨G1, hx4, Or.inl ⟨rfl, fun _ => hf, h4, h.2⟩⟩
    | true =>
      have hfirst := h.2.first1
      have hw1 := fits1 (n := 1) hf (by omega)
      simp (maxSteps := 1000000) (disch := omega) only [↓sy1, sy2, sy3, readOK, sy5, sy6, Nat.reduceEqDiff, ↓reduceIte, sy7, sy8, sy9, sya, oneOf, syb, syc, Nat.reduceAdd, Nat.reduceMul, syd, sye, syf, syg, syh, reduceCtorEq]
      refine call0 (turn_spec h4 (pg := 1) (i := firstN I) (.inl rfl) (by omega) hw1) ?_
      rintro _ w5 ⟨G5, h5, hx5⟩
      simp (maxSteps := 1000000) (disch := omega) only [↓sy1, sy2, sy3, readOK, sy5, sy6, Nat.reduceEqDiff, ↓reduceIte, sy7, sy8, sy9, sya, oneOf, syb, syc, Nat.reduceAdd, Nat.reduceMul, syd, sye, syf, syg, syh, reduceCtorEq]
      refine R_out ⟨G5, hx4.trans hx5, Or.inr ⟨rfl, hlt, hf, ?_, h.2.flipI f7 hfirst (firstN_at hlt)⟩⟩
      rw [List.length_set]; exact h5
  · rw [show firstZ I = -1 from if_neg hlt]
    simp (maxSteps := 1000000) (disch := omega) only [↓sy1, sy2, sy3, readOK, sy5, sy6, Nat.reduceEqDiff, ↓reduceIte, sy7, sy8, sy9, sya, oneOf, syb, syc, Nat.reduceAdd, Nat.reduceMul, syd, sye, syf, syg, syh, reduceCtorEq, show ((-1 : Int) < 0) from by omega, decide_true]
    exact R_out ⟨G1, hx1.trans (.grow hg2), Or.inl ⟨rfl, fun h => absurd h hlt, h1.grow hg2, h.2⟩⟩
/-- What giving back answers, if there is room. -/
def giveC (l : List Bool) (n least : Int) : Int := if n < least ∨ (l.length : Int) ≤ n then 2 else if l[n.toNat]? = some true then 0 else 4
def giveL (l : List Bool) (n least : Int) : List Bool := if giveC l n least = 0 then l.set n.toNat false else l
set_option maxHeartbeats 2000000 in
theorem give_spec (h : MapC G κ μ w m p lq came c k) {pg : Nat} (hpg : pg = 1 ∨ pg = 2) {L : List Bool} (hL : bitsOf (c.page pg) (nbits c k pg) = L) (h8 : 8 ≤ k) {n : Int} {least : Nat} :
    Calls Try.prog 44 #[.pointer (some ⟨m, 0, none⟩), .int .i64 pg, .int .i64 n, .int .i64 least] w (Ret fun v w' => ∃ G', Ext (fun x => x = μ) G w G' w' ∧
      v = .int .i64 (if giveC L n least = 0 ∧ c.fits [(pg : Int)] = false then 7 else giveC L n least) ∧ MapC G' κ μ w' m p lq came (if giveC L n least = 0 ∧ c.fits [(pg : Int)] = true then c.write pg (flipB (c.page pg) n.toNat) else c) k) := by
  have hn3 := h.n3
  have hnine := h.nine
  have hk5 := h.k5
  have hpl := h.cache.oks.plen (n := pg) (by omega)
  have hLl : L.length = nbits c k pg := by rw [← hL, bitsOf_length]
  have hnb : nbits c k pg ≤ 4096 := by unfold nbits; split <;> omega
  apply enter44
  apply R_in
  simp (maxSteps := 1000000) (disch := omega) only [↓sy1, sy2, sy3, readOK, sy5, sy6, Nat.reduceEqDiff, ↓reduceIte, sy7, sy8, sy9, sya, oneOf, syb, syc, Nat.reduceAdd, Nat.reduceMul, syd, sye, syf, syg, syh, reduceCtorEq, F44]
  refine call0 (mread_spec h hpg) ?_
  rintro _ w1 ⟨u, G1, rfl, hu, hub, h1, hx1⟩
  have huc := (Has.own hu).isCell
  have hg2 : Grow w1 (w1.alloc (.cells (Value.agg #[.slice none 0 0, .int .i64 0]).cells 79)) := (Keep.refl _ _).alloc _
  have hb2 := heap_alloc_new w1 (.cells (Value.agg #[.slice none 0 0, .int .i64 0]).cells 79)
  simp (maxSteps := 1000000) (disch := omega) only [↓sy1, sy2, sy3, readOK, sy5, sy6, Nat.reduceEqDiff, ↓reduceIte, sy7, sy8, sy9, sya, oneOf, syb, syc, Nat.reduceAdd, Nat.reduceMul, syd, sye, syf, syg, syh, reduceCtorEq]
  rw [agg2_cells (x := .slice none 0 0) (y := .int .i64 0) rfl rfl] at hg2 hb2 ⊢
  generalize w1.alloc (.cells #[.slice none 0 0, .int .i64 0] 79) = w2 at hg2 hb2 ⊢
  obtain ⟨w3, hst, hb3, hk3⟩ := stn2 (x := u) (y := .int .i64 (nbits c k pg)) hb2 huc rfl
  have hlt1 : ∀ b, u.ownBlock = some b → b < w1.heap.size := fun b hb => (World.ownsRow.lt hu b hb).2
  have hg3 : Grow w1 w3 := hg2.then hk3 (fun b hb hh => by omega)
  have hc3 : w3.cell? ⟨w1.heap.size, 1, none⟩ = some (.int .i64 (nbits c k pg)) := by rw [cell_block hb3]; rfl
  have hl3 : loadN w3 ⟨w1.heap.size, 0, none⟩ 0 2 = some [u, .int .i64 (nbits c k pg)] := loadN2 (by rw [cell_block hb3]; rfl) (by rw [cell_block hb3]; rfl)
  have h3 := h1.grow hg3
  have hx3 := hx1.trans (.grow hg3)
  by_cases hout : n < least ∨ (L.length : Int) ≤ n
  · have hcode : giveC L n least = 2 := if_pos hout
    rw [hcode, if_neg (by omega), if_neg (by omega)]
    by_cases hlo : n < least
    · simp (maxSteps := 1000000) (disch := omega) only [↓sy1, sy2, sy3, readOK, sy5, sy6, Nat.reduceEqDiff, ↓reduceIte, sy7, sy8, sy9, sya, oneOf, syb, syc, Nat.reduceAdd, Nat.reduceMul, syd, sye, syf, syg, syh, reduceCtorEq, hst, hlo, decide_true]
      exact R_out ⟨G1, hx3, h3⟩
    · simp (maxSteps := 1000000) (disch := omega) only [↓sy1, sy2, sy3, readOK, sy5, sy6, Nat.reduceEqDiff, ↓reduceIte, sy7, sy8, sy9, sya, oneOf, syb, syc, Nat.reduceAdd, Nat.reduceMul, syd, sye, syf, syg, syh, reduceCtorEq, hst, hlo, hc3, decide_false, show ((nbits c k pg : Nat) : Int) ≤ n from by omega, decide_true]
      exact R_out ⟨G1, hx3, h3⟩
  obtain ⟨i, rfl⟩ : ∃ i : Nat, n = i := ⟨n.toNat, by omega⟩
  have hi : i < nbits c k pg := by omega
  have hbit : L[i]? = some (bitB (c.page pg) i) := by rw [← hL, bitsOf_get hi]
  have hcode : giveC L i least = if bitB (c.page pg) i = true then 0 else 4 := by
    unfold giveC
    rw [if_neg hout, show ((i : Int).toNat) = i from rfl, hbit]
    simp
  rw [hcode]
  simp (maxSteps := 1000000) (disch := omega) only [↓sy1, sy2, sy3, readOK, sy5, sy6, Nat.reduceEqDiff, ↓reduceIte, sy7, sy8, sy9, sya, oneOf, syb, syc, Nat.reduceAdd, Nat.reduceMul, syd, sye, syf, syg, syh, reduceCtorEq, hst, show ¬ ((i : Int) < least) from by omega, hc3, decide_false, show ¬ (((nbits c k pg : Nat) : Int) ≤ (i : Int)) from by omega, hl3]
  refine call0 (bat_spec (b := c.page pg) (i := i) (Has.own (own_grow hu hg3)) (by omega) rfl (by omega)) ?_
  rintro _ w4 ⟨rfl, hg4⟩
  have h4 := h3.grow hg4
  have hx4 := hx3.trans (.grow hg4)
  cases hb : bitB (c.page pg) i with
  | false =>
    simp (maxSteps := 1000000) (disch := omega) only [↓sy1, sy2, sy3, readOK, sy5, sy6, Nat.reduceEqDiff, ↓reduceIte, sy7, sy8, sy9, sya, oneOf, syb, syc, Nat.reduceAdd, Nat.reduceMul, syd, sye, syf, syg, syh, reduceCtorEq, Int.reduceEq, Bool.false_eq_true, if_false, false_and]
    exact R_out ⟨G1, hx4, h4⟩
  | true =>
    simp (maxSteps := 1000000) (disch := omega) only [↓sy1, sy2, sy3, readOK, sy5, sy6, Nat.reduceEqDiff, ↓reduceIte, sy7, sy8, sy9, sya, oneOf, syb, syc, Nat.reduceAdd, Nat.reduceMul, syd, sye, syf, syg, syh, reduceCtorEq]
    have hg5 : Grow w4 (w4.alloc (.cells #[.int .i64 pg] 3)) := (Keep.refl _ _).alloc _
    have hb5 := heap_alloc_new w4 (.cells #[.int .i64 pg] 3)
    generalize w4.alloc (.cells #[.int .i64 pg] 3) = w5 at hg5 hb5 ⊢
    have h5 := h4.grow hg5
    refine call0 (fits_spec h5 (l := [(pg : Int)]) (HasI_block1 hb5) (by simp)) ?_
    rintro _ w6 ⟨rfl, hg6⟩
    have h6 := h5.grow hg6
    have hx6 := (hx4.trans (.grow hg5)).trans (.grow hg6)
    cases hf : c.fits [(pg : Int)] with
    | false =>
      simp (maxSteps := 1000000) (disch := omega) only [↓sy1, sy2, sy3, readOK, sy5, sy6, Nat.reduceEqDiff, ↓reduceIte, sy7, sy8, sy9, sya, oneOf, syb, syc, Nat.reduceAdd, Nat.reduceMul, syd, sye, syf, syg, syh, reduceCtorEq, Bool.false_eq_true, and_false, if_false, if_true, and_self]
      exact R_out ⟨G1, hx6, h6⟩
    | true =>
      have hw1 := fits1 (n := pg) hf (by omega)
      simp (maxSteps := 1000000) (disch := omega) only [↓sy1, sy2, sy3, readOK, sy5, sy6, Nat.reduceEqDiff, ↓reduceIte, sy7, sy8, sy9, sya, oneOf, syb, syc, Nat.reduceAdd, Nat.reduceMul, syd, sye, syf, syg, syh, reduceCtorEq, Bool.true_eq_false, and_false, if_false, if_true, and_self]
      refine call0 (turn_spec h6 (pg := pg) (i := i) hpg (by omega) hw1) ?_
      rintro _ w7 ⟨G7, h7, hx7⟩
      simp (maxSteps := 1000000) (disch := omega) only [↓sy1, sy2, sy3, readOK, sy5, sy6, Nat.reduceEqDiff, ↓reduceIte, sy7, sy8, sy9, sya, oneOf, syb, syc, Nat.reduceAdd, Nat.reduceMul, syd, sye, syf, syg, syh, reduceCtorEq]
      exact R_out ⟨G7, hx6.trans hx7, h7⟩
theorem first_map_spec (h : MapC G κ μ w m p lq came c k) : Calls Try.prog 18 #[.pointer (some ⟨m, 0, none⟩)] w (Ret fun v w' => v = .int .i64 ((3 + k / 8 : Nat) : Int) ∧ w' = w) := by
  have hk5 := h.k5
  apply enter18
  apply R_in
  simp (maxSteps := 1000000) (disch := omega) only [↓sy1, sy2, sy3, readOK, sy5, sy6, Nat.reduceEqDiff, ↓reduceIte, sy7, sy8, sy9, sya, oneOf, syb, syc, Nat.reduceAdd, Nat.reduceMul, syd, sye, syf, syg, syh, reduceCtorEq, F18, h.cells.2, tdiv8]
  exact R_out (congrArg (Value.int .i64) (by omega))
theorem inodes_spec (h : MapC G κ μ w m p lq came c k) : Calls Try.prog 13 #[.pointer (some ⟨m, 0, none⟩)] w (Ret fun v w' => v = .int .i64 k ∧ w' = w) := by
  apply enter13
  apply R_in
  simp (maxSteps := 1000000) (disch := omega) only [↓sy1, sy2, sy3, readOK, sy5, sy6, Nat.reduceEqDiff, ↓reduceIte, sy7, sy8, sy9, sya, oneOf, syb, syc, Nat.reduceAdd, Nat.reduceMul, syd, sye, syf, syg, syh, reduceCtorEq, F13, h.cells.2]
  exact R_out trivial
theorem mcache_spec (h : MapC G κ μ w m p lq came c k) : Calls Try.prog 24 #[.pointer (some ⟨m, 0, none⟩)] w (Ret fun v w' => v = .pointer (some ⟨p, 0, none⟩) ∧ w' = w) := by
  apply enter24
  apply R_in
  simp (maxSteps := 1000000) (disch := omega) only [↓sy1, sy2, sy3, readOK, sy5, sy6, Nat.reduceEqDiff, ↓reduceIte, sy7, sy8, sy9, sya, oneOf, syb, syc, Nat.reduceAdd, Nat.reduceMul, syd, sye, syf, syg, syh, reduceCtorEq, F24, h.cells.1]
  exact R_out trivial
/-- The page and the place of an inode, and whether there is one. -/
def tableC (k : Nat) (i : Int) : Value := if i < 0 ∨ (k : Int) ≤ i then .tuple #[.int .i64 0, .int .i64 0, .int .i64 2] else .tuple #[.int .i64 (3 + i / 8), .int .i64 (64 * (i % 8)), .int .i64 0]
theorem table_spec (h : MapC G κ μ w m p lq came c k) {i : Int} : Calls Try.prog 21 #[.pointer (some ⟨m, 0, none⟩), .int .i64 i] w (Ret fun v w' => v = tableC k i ∧ w' = w) := by
  have hk5 := h.k5
  apply enter21
  apply R_in
  by_cases hi : i < 0 ∨ (k : Int) ≤ i
  · rw [tableC, if_pos hi]
    by_cases h0 : i < 0
    · simp (maxSteps := 1000000) (disch := omega) only [↓sy1, sy2, sy3, readOK, sy5, sy6, Nat.reduceEqDiff, ↓reduceIte, sy7, sy8, sy9, sya, oneOf, syb, syc, Nat.reduceAdd, Nat.reduceMul, syd, sye, syf, syg, syh, reduceCtorEq, F21, h.cells.2, h0, decide_true]
      exact R_out trivial
    · simp (maxSteps := 1000000) (disch := omega) only [↓sy1, sy2, sy3, readOK, sy5, sy6, Nat.reduceEqDiff, ↓reduceIte, sy7, sy8, sy9, sya, oneOf, syb, syc, Nat.reduceAdd, Nat.reduceMul, syd, sye, syf, syg, syh, reduceCtorEq, F21, h.cells.2, h0, decide_false, show (k : Int) ≤ i from by omega, decide_true]
      exact R_out trivial
  · rw [tableC, if_neg hi]
    obtain ⟨j, rfl⟩ : ∃ j : Nat, i = j := ⟨i.toNat, by omega⟩
    have hm : (((j % 8 : Nat) : Int) * 512).tdiv 8 = 64 * ((j : Int) % 8) := by
      rw [show ((j % 8 : Nat) : Int) * 512 = ((j % 8 * 512 : Nat) : Int) from by omega, tdiv8]; omega
    simp (maxSteps := 1000000) (disch := omega) only [↓sy1, sy2, sy3, readOK, sy5, sy6, Nat.reduceEqDiff, ↓reduceIte, sy7, sy8, sy9, sya, oneOf, syb, syc, Nat.reduceAdd, Nat.reduceMul, syd, sye, syf, syg, syh, reduceCtorEq, F21, h.cells.2, show ¬ ((j : Int) < 0) from by omega, decide_false, show ¬ ((k : Int) ≤ (j : Int)) from by omega, tdiv8, tmod8, hm]
    refine R_out ?_
    rw [show (3 : Int) + ((j / 8 : Nat) : Int) = 3 + (j : Int) / 8 from by omega]
/-- Is one taken? -/
def usedC (l : List Bool) (n : Int) : Bool := decide (0 ≤ n ∧ n < l.length) && l.getD n.toNat false
set_option maxHeartbeats 1000000 in
theorem is_spec (h : MapC G κ μ w m p lq came c k) {pg : Nat} (hpg : pg = 1 ∨ pg = 2) {L : List Bool} (hL : bitsOf (c.page pg) (nbits c k pg) = L) {n : Int} :
    Calls Try.prog 46 #[.pointer (some ⟨m, 0, none⟩), .int .i64 pg, .int .i64 n] w (Ret fun v w' => v = .bool (usedC L n) ∧ ∃ G', Ext (fun x => x = μ) G w G' w' ∧ MapC G' κ μ w' m p lq came c k) := by
  have hn3 := h.n3
  have hnine := h.nine
  have hk5 := h.k5
  have hpl := h.cache.oks.plen (n := pg) (by omega)
  have hLl : L.length = nbits c k pg := by rw [← hL, bitsOf_length]
  have hnb : nbits c k pg ≤ 4096 := by unfold nbits; split <;> omega
  apply enter46
  apply R_in
  by_cases h0 : n < 0
  · simp (maxSteps := 1000000) (disch := omega) only [↓sy1, sy2, sy3, readOK, sy5, sy6, Nat.reduceEqDiff, ↓reduceIte, sy7, sy8, sy9, sya, oneOf, syb, syc, Nat.reduceAdd, Nat.reduceMul, syd, sye, syf, syg, syh, reduceCtorEq, F46, h0, decide_true]
    refine R_out ⟨?_, G, .refl _ _ _, h⟩
    simp [usedC]; omega
  simp (maxSteps := 1000000) (disch := omega) only [↓sy1, sy2, sy3, readOK, sy5, sy6, Nat.reduceEqDiff, ↓reduceIte, sy7, sy8, sy9, sya, oneOf, syb, syc, Nat.reduceAdd, Nat.reduceMul, syd, sye, syf, syg, syh, reduceCtorEq, F46, h0, decide_false]
  refine call0 (mread_spec h hpg) ?_
  rintro _ w1 ⟨u, G1, rfl, hu, hub, h1, hx1⟩
  have huc := (Has.own hu).isCell
  have hg2 : Grow w1 (w1.alloc (.cells (Value.agg #[.slice none 0 0, .int .i64 0]).cells 79)) := (Keep.refl _ _).alloc _
  have hb2 := heap_alloc_new w1 (.cells (Value.agg #[.slice none 0 0, .int .i64 0]).cells 79)
  simp (maxSteps := 1000000) (disch := omega) only [↓sy1, sy2, sy3, readOK, sy5, sy6, Nat.reduceEqDiff, ↓reduceIte, sy7, sy8, sy9, sya, oneOf, syb, syc, Nat.reduceAdd, Nat.reduceMul, syd, sye, syf, syg, syh, reduceCtorEq]
  rw [agg2_cells (x := .slice none 0 0) (y := .int .i64 0) rfl rfl] at hg2 hb2 ⊢
  generalize w1.alloc (.cells #[.slice none 0 0, .int .i64 0] 79) = w2 at hg2 hb2 ⊢
  obtain ⟨w3, hst, hb3, hk3⟩ := stn2 (x := u) (y := .int .i64 (nbits c k pg)) hb2 huc rfl
  have hg3 : Grow w1 w3 := hg2.then hk3 (fun b hb hh => by omega)
  have hc3 : w3.cell? ⟨w1.heap.size, 1, none⟩ = some (.int .i64 (nbits c k pg)) := by rw [cell_block hb3]; rfl
  have hl3 : loadN w3 ⟨w1.heap.size, 0, none⟩ 0 2 = some [u, .int .i64 (nbits c k pg)] := loadN2 (by rw [cell_block hb3]; rfl) (by rw [cell_block hb3]; rfl)
  have h3 := h1.grow hg3
  have hx3 := hx1.trans (.grow hg3)
  obtain ⟨i, rfl⟩ : ∃ i : Nat, n = i := ⟨n.toNat, by omega⟩
  by_cases hi : i < nbits c k pg
  · have hbit : L[i]? = some (bitB (c.page pg) i) := by rw [← hL, bitsOf_get hi]
    simp (maxSteps := 1000000) (disch := omega) only [↓sy1, sy2, sy3, readOK, sy5, sy6, Nat.reduceEqDiff, ↓reduceIte, sy7, sy8, sy9, sya, oneOf, syb, syc, Nat.reduceAdd, Nat.reduceMul, syd, sye, syf, syg, syh, reduceCtorEq, hst, hc3, Int.ofNat_lt, hi, decide_true, hl3]
    refine call0 (bat_spec (b := c.page pg) (i := i) (Has.own (own_grow hu hg3)) (by omega) rfl (by omega)) ?_
    rintro _ w4 ⟨rfl, hg4⟩
    simp (maxSteps := 1000000) (disch := omega) only [↓sy1, sy2, sy3, readOK, sy5, sy6, Nat.reduceEqDiff, ↓reduceIte, sy7, sy8, sy9, sya, oneOf, syb, syc, Nat.reduceAdd, Nat.reduceMul, syd, sye, syf, syg, syh, reduceCtorEq]
    refine R_out ⟨?_, G1, hx3.trans (.grow hg4), h3.grow hg4⟩
    have h4 : usedC L (i : Int) = bitB (c.page pg) i := by
      unfold usedC
      rw [decide_eq_true (by omega), Bool.true_and, show ((i : Int).toNat) = i from rfl, List.getD_eq_getElem?_getD, hbit]; rfl
    rw [h4]
  · simp (maxSteps := 1000000) (disch := omega) only [↓sy1, sy2, sy3, readOK, sy5, sy6, Nat.reduceEqDiff, ↓reduceIte, sy7, sy8, sy9, sya, oneOf, syb, syc, Nat.reduceAdd, Nat.reduceMul, syd, sye, syf, syg, syh, reduceCtorEq, hst, hc3, Int.ofNat_lt, hi, decide_false]
    refine R_out ⟨?_, G1, hx3, h3⟩
    have h4 : usedC L (i : Int) = false := by
      unfold usedC
      rw [decide_eq_false (by omega)]; rfl
    rw [h4]
end
end Go.Proofs.Ytbnecclognibaaa

/- Small whole numbers as floats; sums of complex numbers; their parts. -/
namespace Go.Proofs.Ytbnecclognibaaa
open Go
set_option linter.unusedSimpArgs false
def flt (n : Nat) : Nat := FloatKind.f64.format.nearest false n 0
def fltChk (n : Nat) : Bool := decide (floatBits .add .f64 (flt n) (flt 1) = some (flt (n + 1))) && decide (floatBits .add .f64 (flt n) (flt 0) = some (flt n)) && decide (floatToIntVal .f64 (flt n) .i64 = some (n : Int))
def fltRow : (from_ todo : Nat) → Bool
  | _, 0 => true
  | a, n + 1 => fltChk a && fltRow (a + 1) n
theorem fltRow_at : ∀ {todo a n : Nat}, fltRow a todo = true → a ≤ n → n < a + todo → fltChk n = true
  | 0, a, n, _, h1, h2 => by omega
  | todo + 1, a, n, h, h1, h2 => by
    simp only [fltRow, Bool.and_eq_true] at h
    by_cases ha : a = n
    · subst ha; exact h.1
    · exact fltRow_at h.2 (by omega) (by omega)
def fltTop : Nat := 525
theorem flt_row0 : fltRow 0 525 = true := by kernel_rfl
theorem flt_at {n : Nat} (h : n < fltTop) : fltChk n = true := fltRow_at flt_row0 (by omega) (by unfold fltTop at h; omega)
theorem flt_add {n x : Nat} (h : n < fltTop) (hx : x ≤ 1) : floatBits .add .f64 (flt n) (flt x) = some (flt (n + x)) := by
  have h1 := flt_at h
  simp only [fltChk, Bool.and_eq_true, decide_eq_true_eq] at h1
  rcases Nat.lt_or_ge x 1 with h2 | h2
  · rw [show x = 0 by omega]; exact h1.1.2
  · rw [show x = 1 by omega]; exact h1.1.1
theorem flt_int {n : Nat} (h : n < fltTop) : floatToIntVal .f64 (flt n) .i64 = some (n : Int) := by
  have h1 := flt_at h
  simp only [fltChk, Bool.and_eq_true, decide_eq_true_eq] at h1
  exact h1.2
theorem flt0 : flt 0 = 0 := by kernel_rfl
theorem flt1 : flt 1 = 4607182418800017408 := by kernel_rfl
/-- Two counts as one number. -/
def cpx (a b : Nat) : Value := .complex .f64 (flt a) (flt b)
section
variable {P : Program} {k : Kont} {e : Env} {w : World} {l : List GOp} {d : Option Nat}
theorem cadd_rule {x y : Operand} {t yt ty : TypeId} {a b c f : Nat} (hx : ev e x = cpx a b) (hy : ev e y = cpx c f) (ha : a < fltTop) (hb : b < fltTop) (hc : c ≤ 1) (hf : f ≤ 1)
    (h : R (symOps P l k (updO e d (cpx (a + c) (b + f))) w)) : R (symOps P (⟨d, .hard (H (.binOp .add t x y yt) ty), none⟩ :: l) k e w) := by
  refine hard_rule ?_ h
  have h1 : cSumBits .add .f64 (flt a) (flt b) (flt c) (flt f) = some (flt (a + c), flt (b + f)) := by
    simp [cSumBits, flt_add ha hc, flt_add hb hf]
  have h2 := run_complex_sum (P := P) w .add (.inl rfl) t .f64 _ _ _ _ _ _ h1
  simp [execOp, H, hx, hy, cpx, h2, eqGuard]
theorem real_rule {x : Operand} {ts : Array TypeId} {ty : TypeId} {a b : Nat} (hx : ev e x = cpx a b) (h : R (symOps P l k (updO e d (.float .f64 (flt a))) w)) :
    R (symOps P (⟨d, .hard (H (.call { callee := .builtin .real, args := #[x], argTypes := ts }) ty), none⟩ :: l) k e w) :=
  hard_rule (run_builtin (vs := [cpx a b]) (by simp [hx]) (fun cs => by simp [builtin, cpx, Go.run_real, Go.run_imag])) h
theorem imag_rule {x : Operand} {ts : Array TypeId} {ty : TypeId} {a b : Nat} (hx : ev e x = cpx a b) (h : R (symOps P l k (updO e d (.float .f64 (flt b))) w)) :
    R (symOps P (⟨d, .hard (H (.call { callee := .builtin .imag, args := #[x], argTypes := ts }) ty), none⟩ :: l) k e w) :=
  hard_rule (run_builtin (vs := [cpx a b]) (by simp [hx]) (fun cs => by simp [builtin, cpx, Go.run_real, Go.run_imag])) h
theorem toint_rule {x : Operand} {s t ty : TypeId} {a : Nat} (hs : (P.underlying s).isSome = true) (ht : P.underlying t = some (.int .i64)) (hx : ev e x = .float .f64 (flt a)) (ha : a < fltTop) (h : R (symOps P l k (updO e d (.int .i64 a)) w)) :
    R (symOps P (⟨d, .hard (H (.convert s t x) ty), none⟩ :: l) k e w) := by
  refine hard_rule ?_ h
  have h2 := run_convert_float_int (P := P) w s t .f64 .i64 (flt a) a hs ht (flt_int ha)
  simp only [execOp, H, hx, Sem.run_bind, h2, Result.andThen_ok]; rfl
end
end Go.Proofs.Ytbnecclognibaaa

/- How many pages and inodes are free: two counts as one complex number. -/
namespace Go.Proofs.Ytbnecclognibaaa
open Go
set_option linter.unusedSimpArgs false
open Go.RowKit (intOf)
theorem cpx0 : Value.complex .f64 0 0 = cpx 0 0 := by rw [cpx, flt0]
theorem cpx10 : Value.complex .f64 4607182418800017408 0 = cpx 1 0 := by rw [cpx, flt0, flt1]
theorem cpx01 : Value.complex .f64 0 4607182418800017408 = cpx 0 1 := by rw [cpx, flt0, flt1]
theorem underMC : Try.prog.underlying 105 = some (.map 3 83) := by kernel_rfl
theorem ins_rule {k : Kont} {e : Env} {w : World} {l : List GOp} {d : Option Nat} {t ty : TypeId} {m x v : Operand} (h : R (symOps Try.prog (⟨d, .hard (H (.mapUpdate t m x v) ty), none⟩ :: l) k e w)) : R (symOps Try.prog (⟨d, .hard (H (.insert t m x v) ty), none⟩ :: l) k e w) := h
theorem Ext.onIter {μ : Nat} {G : Gh} {w w' : World} {r m' clk lim : Nat} {sn : Array Nat} (hr : w.heap[r]? = some (.mapIter (some m') clk sn lim)) (hk : Keep (fun b => b = r) w w') (ho : G.own r = μ) : Ext (fun c => c = μ) G w G w' :=
  .one hk (fun _ => ho) (fun _ i v _ hc => by simp [World.cell?, hr] at hc)
def bothE : Array MapEntry := #[⟨.int .i64 2, cpx 1 0, 0⟩, ⟨.int .i64 1, cpx 0 1, 1⟩]
theorem bothE_ok : MapOk bothE.toList 2 := ⟨by simp [bothE], by simp [bothE], by simp [bothE]⟩
theorem bothE_mem {y : MapEntry} (h : y ∈ bothE.toList) : y = ⟨.int .i64 2, cpx 1 0, 0⟩ ∨ y = ⟨.int .i64 1, cpx 0 1, 1⟩ := by simpa [bothE] using h
theorem freeN_bits {b : List UInt8} {n i : Nat} (hi : i < n) : freeN ((bitsOf b n).take (i + 1)) = freeN ((bitsOf b n).take i) + if bitB b i then 0 else 1 := freeN_take (bitsOf_get hi)
theorem freeN_take_le (l : List Bool) (i : Nat) : freeN (l.take i) ≤ l.length := Nat.le_trans (freeN_le _) (by rw [List.length_take]; omega)
section
variable {G G' : Gh} {κ μ m p lq came k : Nat} {w w' : World} {c : Csh} {P I : List Bool}
set_option maxHeartbeats 4000000 in
theorem both_spec (h : MapAt G κ μ w m p lq came c P I) (hP : P.length < 525) :
    Calls Try.prog 45 #[.pointer (some ⟨m, 0, none⟩)] w (Ret fun v w' => v = cpx (freeN P) (freeN I) ∧ ∃ G', Ext (fun x => x = μ) G w G' w' ∧ MapC G' κ μ w' m p lq came c I.length) := by
  obtain ⟨f1, f2, f3, f4, f5, f6, f7, f8⟩ := h.facts
  have hne := h.1.cache.ne
  have hn6 := h.1.ne
  apply enter45
  apply R_in
  simp (maxSteps := 1000000) (disch := omega) only [↓sy1, sy2, sy3, readOK, sy5, sy6, Nat.reduceEqDiff, ↓reduceIte, sy7, sy8, sy9, sya, oneOf, syb, syc, Nat.reduceAdd, Nat.reduceMul, syd, sye, syf, syg, syh, reduceCtorEq, F45]
  have hg0 : Grow w (w.alloc (.map #[] 0)) := (Keep.refl _ _).alloc _
  have hb0 := heap_alloc_new w (.map #[] 0)
  generalize w.alloc (.map #[] 0) = w0 at hg0 hb0 ⊢
  have hK : MapOk (#[] : Array MapEntry).toList 0 := ⟨by simp, by simp, by simp⟩
  refine ins_rule (put_rule (kk := .i64) (n := 2) (v := .complex .f64 4607182418800017408 0) (by simp only [upd_at, Nat.reduceEqDiff, reduceIte, ev_tmp, ev_const, List.map_cons, List.map_nil]) (by simp only [upd_at, Nat.reduceEqDiff, reduceIte, ev_tmp, ev_const, List.map_cons, List.map_nil]) (by simp only [upd_at, Nat.reduceEqDiff, reduceIte, ev_tmp, ev_const, List.map_cons, List.map_nil]) underMC underI hb0 (fun y hy => by simp at hy) (fun _ w1 hk1 hb1 => ?_) (fun j y hj _ => by simp at hj))
  simp (maxSteps := 1000000) (disch := omega) only [↓sy1, sy2, sy3, readOK, sy5, sy6, Nat.reduceEqDiff, ↓reduceIte, sy7, sy8, sy9, sya, oneOf, syb, syc, Nat.reduceAdd, Nat.reduceMul, syd, sye, syf, syg, syh, reduceCtorEq]
  refine ins_rule (put_rule (kk := .i64) (n := 1) (v := .complex .f64 0 4607182418800017408) (by simp only [upd_at, Nat.reduceEqDiff, reduceIte, ev_tmp, ev_const, List.map_cons, List.map_nil]) (by simp only [upd_at, Nat.reduceEqDiff, reduceIte, ev_tmp, ev_const, List.map_cons, List.map_nil]) (by simp only [upd_at, Nat.reduceEqDiff, reduceIte, ev_tmp, ev_const, List.map_cons, List.map_nil]) underMC underI hb1 (fun y hy => by simp at hy; subst hy; exact ⟨2, rfl⟩) (fun _ w2 hk2 hb2 => ?_) (fun j y hj hy => by
    have := List.mem_of_getElem? hj
    simp at this; subst this
    have := (Value.int.inj hy).2; omega))
  have hb2 : w2.heap[w.heap.size]? = some (.map bothE 2) := by
    rw [hb2]; simp [bothE, cpx10, cpx01]
  have hg2 : Grow w w2 := (hg0.then hk1 (fun b hb hh => by omega)).then hk2 (fun b hb hh => by omega)
  clear hk1 hb1 hk2 hb0 hg0 hK
  simp (maxSteps := 1000000) (disch := omega) only [↓sy1, sy2, sy3, readOK, sy5, sy6, Nat.reduceEqDiff, ↓reduceIte, sy7, sy8, sy9, sya, oneOf, syb, syc, Nat.reduceAdd, Nat.reduceMul, syd, sye, syf, syg, syh, reduceCtorEq]
  refine range_rule (m := w.heap.size) (by simp only [upd_at, Nat.reduceEqDiff, reduceIte, ev_tmp, ev_const, List.map_cons, List.map_nil]) underMC hb2 ?_
  have hg3 : Grow w2 (w2.alloc (.mapIter (some w.heap.size) 2 #[] 2)) := (Keep.refl _ _).alloc _
  have hr3 := heap_alloc_new w2 (.mapIter (some w.heap.size) 2 #[] 2)
  have hrw : w.heap.size < w2.heap.size := (Array.getElem?_eq_some_iff.1 hb2).1
  have hr3s : (w2.alloc (.mapIter (some w.heap.size) 2 #[] 2)).heap.size = w2.heap.size + 1 := by simp
  generalize w2.alloc (.mapIter (some w.heap.size) 2 #[] 2) = w3 at hg3 hr3 hr3s ⊢
  generalize w2.heap.size = r at hr3 hrw hr3s ⊢
  have hb3 := hg3.gheap hb2
  have hx3 : Ext0 G w (G.upto w.heap.size (fun _ => 6) (fun _ => 0)) w3 := .upto (hg2.trans hg3) _ _
  have h3 := h.1.ext hx3 id id id
  have hom : (G.upto w.heap.size (fun _ => 6) (fun _ => 0)).own w.heap.size = 6 ∧ (G.upto w.heap.size (fun _ => 6) (fun _ => 0)).own r = 6 := ⟨(upto_own (Nat.le_refl _)).1, (upto_own (by omega)).1⟩
  generalize (G.upto w.heap.size (fun _ => 6) (fun _ => 0)) = G3 at hx3 h3 hom
  simp (maxSteps := 1000000) (disch := omega) only [↓sy1, sy2, sy3, readOK, sy5, sy6, Nat.reduceEqDiff, ↓reduceIte, sy7, sy8, sy9, sya, oneOf, syb, syc, Nat.reduceAdd, Nat.reduceMul, syd, sye, syf, syg, syh, reduceCtorEq]
  refine mloop_rule (r := r) (m := w.heap.size) (clk := 2) (es := bothE) (fun seen e w' => ∃ G', e 0 = .pointer (some ⟨m, 0, none⟩) ∧ e 10 = .pointer (some ⟨r, 0, none⟩) ∧ e 3 = cpx (if 0 ∈ seen then freeN P else 0) (if 1 ∈ seen then freeN I else 0) ∧
      MapC G' κ μ w' m p lq came c I.length ∧ Ext (fun x => x = μ) G w G' w' ∧ w'.heap[w.heap.size]? = some (.map bothE 2) ∧ G'.own w.heap.size = 6 ∧ G'.own r = 6 ∧ r < w'.heap.size)
    hr3 ⟨G3, by simp [upd, updO, ev], by simp [upd, updO, ev], by simp [upd, updO, ev, cpx0], h3, hx3.mono (fun _ h => h.elim), hb3, hom.1, hom.2, by omega⟩ ?_
  rintro seen e w4 hr4 ⟨G4, e0, e10, e3, h4, hx4, hb4, ho4, hor4, hr4s⟩
  simp (maxSteps := 1000000) (disch := omega) only [↓sy1, sy2, sy3, readOK, sy5, sy6, Nat.reduceEqDiff, ↓reduceIte, sy7, sy8, sy9, sya, oneOf, syb, syc, Nat.reduceAdd, Nat.reduceMul, syd, sye, syf, syg, syh, reduceCtorEq, F45_L1, e0, e10, e3]
  refine next_rule (by simp only [upd_at, Nat.reduceEqDiff, reduceIte, ev_tmp, ev_const, List.map_cons, List.map_nil, e10]) hr4 hb4 bothE_ok (fun hend => ?_) (fun y hy hyn w5 hk5 hr5 => ?_)
  · have s0 : 0 ∈ seen := hend ⟨.int .i64 2, cpx 1 0, 0⟩ (by simp [bothE])
    have s1 : 1 ∈ seen := hend ⟨.int .i64 1, cpx 0 1, 1⟩ (by simp [bothE])
    rw [if_pos s0, if_pos s1] at e3
    simp (maxSteps := 1000000) (disch := omega) only [↓sy1, sy2, sy3, readOK, sy5, sy6, Nat.reduceEqDiff, ↓reduceIte, sy7, sy8, sy9, sya, oneOf, syb, syc, Nat.reduceAdd, Nat.reduceMul, syd, sye, syf, syg, syh, reduceCtorEq, e3]
    exact R_out ⟨G4, hx4, h4⟩
  have hb5 : w5.heap[w.heap.size]? = some (.map bothE 2) := hk5.heap hb4 (by omega)
  have h5 : MapC G4 κ μ w5 m p lq came c I.length := h4.ext (K := fun x => x = 6) (.onIter hr4 hk5 hor4) hn6.1 hn6.2 (by omega)
  have hx5 : Ext (fun x => x = μ) G w G4 w5 := hx4.then hk5 (by omega)
  simp (maxSteps := 1000000) (disch := omega) only [↓sy1, sy2, sy3, readOK, sy5, sy6, Nat.reduceEqDiff, ↓reduceIte, sy7, sy8, sy9, sya, oneOf, syb, syc, Nat.reduceAdd, Nat.reduceMul, syd, sye, syf, syg, syh, reduceCtorEq]
  refine entry_rule (by simp only [upd_at, Nat.reduceEqDiff, reduceIte, ev_tmp, ev_const, List.map_cons, List.map_nil, e10]) hr5 hb5 bothE_ok hy ?_
  generalize hA : (if 0 ∈ seen then freeN P else 0) = A at e3 ⊢
  generalize hB : (if 1 ∈ seen then freeN I else 0) = B at e3 ⊢
  have hfP := freeN_le P
  have hfI := freeN_le I
  obtain ⟨pg, L, x, yy, hpg, hL, hx1, hy1, hyk, hyv, hAx, hBy⟩ : ∃ (pg : Nat) (L : List Bool) (x yy : Nat), (pg = 1 ∨ pg = 2) ∧ bitsOf (c.page pg) (nbits c I.length pg) = L ∧ x ≤ 1 ∧ yy ≤ 1 ∧ y.key = .int .i64 pg ∧ y.val = cpx x yy ∧
      A + x * freeN L = (if 0 ∈ seen ++ [y.born] then freeN P else 0) ∧ B + yy * freeN L = (if 1 ∈ seen ++ [y.born] then freeN I else 0) := by
    rcases bothE_mem hy with rfl | rfl
    · refine ⟨2, P, 1, 0, .inr rfl, h.2.p, by omega, by omega, rfl, rfl, ?_, ?_⟩
      · rw [← hA, if_neg hyn, if_pos (by simp)]; omega
      · rw [← hB, Nat.zero_mul, Nat.add_zero]; simp
    · refine ⟨1, I, 0, 1, .inl rfl, h.2.i, by omega, by omega, rfl, rfl, ?_, ?_⟩
      · rw [← hA, Nat.zero_mul, Nat.add_zero]; simp
      · rw [← hB, if_neg hyn, if_pos (by simp)]; omega
  have hA' : A + x * freeN L < 525 := by rw [hAx]; split <;> omega
  have hB' : B + yy * freeN L < 525 := by rw [hBy]; split <;> omega
  have hLl : L.length = nbits c I.length pg := by rw [← hL, bitsOf_length]
  have hnb : nbits c I.length pg < 525 := by
    unfold nbits; split <;> omega
  have hpl : (c.page pg).length = 512 := by rcases hpg with rfl | rfl <;> assumption
  simp (maxSteps := 1000000) (disch := omega) only [↓sy1, sy2, sy3, readOK, sy5, sy6, Nat.reduceEqDiff, ↓reduceIte, sy7, sy8, sy9, sya, oneOf, syb, syc, Nat.reduceAdd, Nat.reduceMul, syd, sye, syf, syg, syh, reduceCtorEq, hyk, hyv, e0]
  refine call0 (mread_spec h5 hpg) ?_
  rintro _ w6 ⟨u, G6, rfl, hu, hub, h6, hx6⟩
  have huc := (Has.own hu).isCell
  have hg7 : Grow w6 (w6.alloc (.cells (Value.agg #[.slice none 0 0, .int .i64 0]).cells 79)) := (Keep.refl _ _).alloc _
  have hb7 := heap_alloc_new w6 (.cells (Value.agg #[.slice none 0 0, .int .i64 0]).cells 79)
  simp (maxSteps := 1000000) (disch := omega) only [↓sy1, sy2, sy3, readOK, sy5, sy6, Nat.reduceEqDiff, ↓reduceIte, sy7, sy8, sy9, sya, oneOf, syb, syc, Nat.reduceAdd, Nat.reduceMul, syd, sye, syf, syg, syh, reduceCtorEq]
  rw [agg2_cells (x := .slice none 0 0) (y := .int .i64 0) rfl rfl] at hg7 hb7 ⊢
  generalize w6.alloc (.cells #[.slice none 0 0, .int .i64 0] 79) = w7 at hg7 hb7 ⊢
  obtain ⟨w8, hst, hb8, hk8⟩ := stn2 (x := u) (y := .int .i64 (nbits c I.length pg)) hb7 huc rfl
  have hg8 : Grow w6 w8 := hg7.then hk8 (fun b hb hh => by omega)
  have hc8 : w8.cell? ⟨w6.heap.size, 1, none⟩ = some (.int .i64 (nbits c I.length pg)) := by rw [cell_block hb8]; rfl
  have hu8 := own_grow hu hg8
  have hr5s : r < w5.heap.size := (Array.getElem?_eq_some_iff.1 hr5).1
  have hm5s : w.heap.size < w5.heap.size := (Array.getElem?_eq_some_iff.1 hb5).1
  have hr6 := hx6.heap hr5 (by rw [hor4]; exact fun hh => hn6.2 hh.symm)
  have hb6 := hx6.heap hb5 (by rw [ho4]; exact fun hh => hn6.2 hh.symm)
  have ho6 : G6.own w.heap.size = 6 ∧ G6.own r = 6 := by rw [hx6.own _ hm5s, hx6.own _ hr5s]; exact ⟨ho4, hor4⟩
  simp (maxSteps := 1000000) (disch := omega) only [↓sy1, sy2, sy3, readOK, sy5, sy6, Nat.reduceEqDiff, ↓reduceIte, sy7, sy8, sy9, sya, oneOf, syb, syc, Nat.reduceAdd, Nat.reduceMul, syd, sye, syf, syg, syh, reduceCtorEq, hst, hc8]
  refine loop_rule (fun e w' => ∃ i : Nat, i ≤ nbits c I.length pg ∧ e 21 = .int .i64 i ∧ e 20 = .int .i64 (nbits c I.length pg) ∧ e 6 = .pointer (some ⟨w6.heap.size, 0, none⟩) ∧ e 5 = cpx x yy ∧ e 3 = cpx (A + x * freeN (L.take i)) (B + yy * freeN (L.take i)) ∧ e 0 = .pointer (some ⟨m, 0, none⟩) ∧ e 10 = .pointer (some ⟨r, 0, none⟩) ∧ Grow w8 w') (fun e _ => nbits c I.length pg - (intOf (e 21)).toNat)
    ⟨0, by omega, by simp [upd, updO, ev], by simp [upd, updO, ev], by simp [upd, updO, ev], by simp [upd, updO, ev, hyv], by simp [upd, updO, ev, e3, freeN], by simp [upd, updO, ev, e0], by simp [upd, updO, ev, e10], Keep.refl _ _⟩ ?_
  clear e0 e10 e3
  rintro e w9 ⟨i, hi, e21, e20, e6, e5, e3, e0, e10, hg9⟩
  have hl9 : loadN w9 ⟨w6.heap.size, 0, none⟩ 0 2 = some [u, .int .i64 (nbits c I.length pg)] := loadN2 (by rw [cell_block (hg9.gheap hb8)]; rfl) (by rw [cell_block (hg9.gheap hb8)]; rfl)
  by_cases hlt : i < nbits c I.length pg
  · simp (maxSteps := 1000000) (disch := omega) only [↓sy1, sy2, sy3, readOK, sy5, sy6, Nat.reduceEqDiff, ↓reduceIte, sy7, sy8, sy9, sya, oneOf, syb, syc, Nat.reduceAdd, Nat.reduceMul, syd, sye, syf, syg, syh, reduceCtorEq, F45_L0, e21, e20, e6, e5, e3, e0, e10, Int.ofNat_lt, hlt, decide_true, hl9]
    refine call0 (bat_spec (b := c.page pg) (i := i) (Has.own (own_grow hu8 hg9)) (by omega) rfl (by omega)) ?_
    rintro _ w10 ⟨rfl, hg10⟩
    have hstep : freeN (L.take (i + 1)) = freeN (L.take i) + if bitB (c.page pg) i then 0 else 1 := by rw [← hL]; exact freeN_bits hlt
    cases hb : bitB (c.page pg) i with
    | true =>
      rw [hb, if_pos rfl, Nat.add_zero] at hstep
      simp (maxSteps := 1000000) (disch := omega) only [↓sy1, sy2, sy3, readOK, sy5, sy6, Nat.reduceEqDiff, ↓reduceIte, sy7, sy8, sy9, sya, oneOf, syb, syc, Nat.reduceAdd, Nat.reduceMul, syd, sye, syf, syg, syh, reduceCtorEq, e21, e20, e6, e5, e3, e0, e10]
      exact R_out ⟨⟨i + 1, by omega, rfl, by rw [hstep]; rfl, hg9.trans hg10⟩, by simp only [intOf]; omega⟩
    | false =>
      rw [hb, if_neg (by simp)] at hstep
      have hle : freeN (L.take (i + 1)) ≤ freeN L := by
        unfold freeN; exact List.Sublist.count_le false (List.take_sublist _ _)
      have hxa := Nat.mul_le_mul_left x hle
      have hya := Nat.mul_le_mul_left yy hle
      rw [hstep, Nat.mul_add, Nat.mul_one] at hxa hya
      simp (maxSteps := 1000000) (disch := omega) only [↓sy1, sy2, sy3, readOK, sy5, sy6, Nat.reduceEqDiff, ↓reduceIte, sy7, sy8, sy9, sya, oneOf, syb, syc, Nat.reduceAdd, Nat.reduceMul, syd, sye, syf, syg, syh, reduceCtorEq, e21, e20, e6, e5, e3, e0, e10]
      refine cadd_rule (a := A + x * freeN (L.take i)) (b := B + yy * freeN (L.take i)) (c := x) (f := yy) (by simp only [upd_at, Nat.reduceEqDiff, reduceIte, ev_tmp, ev_const, List.map_cons, List.map_nil]) (by simp only [upd_at, Nat.reduceEqDiff, reduceIte, ev_tmp, ev_const, List.map_cons, List.map_nil]) (by unfold fltTop; omega) (by unfold fltTop; omega) hx1 hy1 ?_
      simp (maxSteps := 1000000) (disch := omega) only [↓sy1, sy2, sy3, readOK, sy5, sy6, Nat.reduceEqDiff, ↓reduceIte, sy7, sy8, sy9, sya, oneOf, syb, syc, Nat.reduceAdd, Nat.reduceMul, syd, sye, syf, syg, syh, reduceCtorEq, e21, e20, e6, e5, e3, e0, e10]
      refine R_out ⟨⟨i + 1, by omega, rfl, ?_, hg9.trans hg10⟩, by simp only [intOf]; omega⟩
      rw [hstep, Nat.mul_add, Nat.mul_add, Nat.mul_one, Nat.mul_one, Nat.add_assoc, Nat.add_assoc]
  · have hie : i = L.length := by omega
    rw [hie, List.take_length, hAx, hBy] at e3
    simp (maxSteps := 1000000) (disch := omega) only [↓sy1, sy2, sy3, readOK, sy5, sy6, Nat.reduceEqDiff, ↓reduceIte, sy7, sy8, sy9, sya, oneOf, syb, syc, Nat.reduceAdd, Nat.reduceMul, syd, sye, syf, syg, syh, reduceCtorEq, F45_L0, e21, e20, e6, e5, e0, e10, Int.ofNat_lt, hlt, decide_false]
    have hg69 : Grow w6 w9 := hg8.trans hg9
    have hr9 := hg69.gheap hr6
    refine R_out (MStep.mk hr4 hy hyn hr9 ⟨G6, e0, e10, e3, h6.grow hg69, (hx5.trans hx6).trans (.grow hg69), hg69.gheap hb6, ho6.1, ho6.2, (Array.getElem?_eq_some_iff.1 hr9).1⟩)
theorem free_spec (h : MapAt G κ μ w m p lq came c P I) (hP : P.length < 525) :
    Calls Try.prog 17 #[.pointer (some ⟨m, 0, none⟩)] w (Ret fun v w' => v = .tuple #[.int .i64 (freeN P), .int .i64 (freeN I)] ∧ ∃ G', Ext (fun x => x = μ) G w G' w' ∧ MapAt G' κ μ w' m p lq came c P I) := by
  have hfP := freeN_le P
  have hfI := freeN_le I
  obtain ⟨f1, f2, f3, f4, f5, f6, f7, f8⟩ := h.facts
  apply enter17
  apply R_in
  simp (maxSteps := 1000000) (disch := omega) only [↓sy1, sy2, sy3, readOK, sy5, sy6, Nat.reduceEqDiff, ↓reduceIte, sy7, sy8, sy9, sya, oneOf, syb, syc, Nat.reduceAdd, Nat.reduceMul, syd, sye, syf, syg, syh, reduceCtorEq, F17]
  refine call0 (both_spec h hP) ?_
  rintro _ w1 ⟨rfl, G1, hx1, h1⟩
  simp (maxSteps := 1000000) (disch := omega) only [↓sy1, sy2, sy3, readOK, sy5, sy6, Nat.reduceEqDiff, ↓reduceIte, sy7, sy8, sy9, sya, oneOf, syb, syc, Nat.reduceAdd, Nat.reduceMul, syd, sye, syf, syg, syh, reduceCtorEq]
  have hfl : (Try.prog.underlying 85).isSome = true := by kernel_rfl
  refine real_rule (a := freeN P) (b := freeN I) (by simp only [upd_at, Nat.reduceEqDiff, reduceIte, ev_tmp, ev_const, List.map_cons, List.map_nil]) ?_
  simp (maxSteps := 1000000) (disch := omega) only [↓sy1, sy2, sy3, readOK, sy5, sy6, Nat.reduceEqDiff, ↓reduceIte, sy7, sy8, sy9, sya, oneOf, syb, syc, Nat.reduceAdd, Nat.reduceMul, syd, sye, syf, syg, syh, reduceCtorEq]
  refine toint_rule (a := freeN P) hfl underI (by simp only [upd_at, Nat.reduceEqDiff, reduceIte, ev_tmp, ev_const, List.map_cons, List.map_nil]) (by unfold fltTop; omega) ?_
  simp (maxSteps := 1000000) (disch := omega) only [↓sy1, sy2, sy3, readOK, sy5, sy6, Nat.reduceEqDiff, ↓reduceIte, sy7, sy8, sy9, sya, oneOf, syb, syc, Nat.reduceAdd, Nat.reduceMul, syd, sye, syf, syg, syh, reduceCtorEq]
  refine imag_rule (a := freeN P) (b := freeN I) (by simp only [upd_at, Nat.reduceEqDiff, reduceIte, ev_tmp, ev_const, List.map_cons, List.map_nil]) ?_
  simp (maxSteps := 1000000) (disch := omega) only [↓sy1, sy2, sy3, readOK, sy5, sy6, Nat.reduceEqDiff, ↓reduceIte, sy7, sy8, sy9, sya, oneOf, syb, syc, Nat.reduceAdd, Nat.reduceMul, syd, sye, syf, syg, syh, reduceCtorEq]
  refine toint_rule (a := freeN I) hfl underI (by simp only [upd_at, Nat.reduceEqDiff, reduceIte, ev_tmp, ev_const, List.map_cons, List.map_nil]) (by unfold fltTop; omega) ?_
  simp (maxSteps := 1000000) (disch := omega) only [↓sy1, sy2, sy3, readOK, sy5, sy6, Nat.reduceEqDiff, ↓reduceIte, sy7, sy8, sy9, sya, oneOf, syb, syc, Nat.reduceAdd, Nat.reduceMul, syd, sye, syf, syg, syh, reduceCtorEq]
  exact R_out ⟨G1, hx1, h1, h.2⟩
end
end Go.Proofs.Ytbnecclognibaaa

/- bytes.Equal, slices.EqualFunc; two disks that are read alike. -/
namespace Go.Proofs.Ytbnecclognibaaa
open Go
set_option linter.unusedSimpArgs false
open Go.RowKit (intOf)
def strOf (l : List UInt8) : ByteArray := ⟨l.toArray⟩
theorem strOf_list (l : List UInt8) : (strOf l).toList = l := by rw [ByteArray.toList_eq]; simp [strOf]
theorem strOf_fold : ∀ (l : List UInt8) (r : ByteArray), (l.map fun b => (b.toNat : Int)).foldl (fun (r : ByteArray) (n : Int) => r.push (UInt8.ofNat n.toNat)) r = ⟨r.data ++ l.toArray⟩
  | [], r => by simp
  | b :: l, r => by
    rw [List.map_cons, List.foldl_cons, strOf_fold l]
    simp [ByteArray.push]
section
variable {P : Program} {k : Kont} {e : Env} {w : World} {l : List GOp} {d : Option Nat}
theorem conv_rule {x : Operand} {src dst el ty : TypeId} {v : Value} {b : List UInt8} (hx : ev e x = v) (hv : HasB w v b) (hs : P.underlying src = some (.slice el)) (he : P.underlying el = some (.int .u8)) (hd : P.underlying dst = some .string)
    (h : R (symOps P l k (updO e d (.string (strOf b))) w)) : R (symOps P (⟨d, .hard (H (.convert src dst x) ty), none⟩ :: l) k e w) := by
  have hr : (convert src dst v).run P w = .ok (.string (strOf b)) w := by
    rcases hv with ⟨bb, o, n, c, rfl, h1, h2, h3⟩ | ⟨h1, rfl⟩
    · rw [run_convert_bytes_string w src dst el _ _ _ hs he hd]
      have hn : n = (bs b).length := by omega
      subst hn
      have hl := run_loadCells_list (P := P) w ⟨bb, o, none⟩ (bs b) (fun j u hj => by rw [add_lit]; exact h3 j u hj)
      rw [run_bytesToString w ⟨bb, o, none⟩ _ c (b.map fun x => (x.toNat : Int)) (by rw [hl]; simp [bs, Function.comp_def]), strOf_fold]
      simp [strOf]
    · have hb : b = [] := by simpa [bs] using h1
      subst hb
      rw [run_convert_bytes_string w src dst el _ _ _ hs he hd]
      simp [Conv.bytesToString, Sem.run_pure]; rfl
  exact hard_rule (by simp only [execOp, H, hx, Sem.run_bind, Sem.run_pure, hr, Result.andThen_ok]) h
theorem streq_rule {x y : Operand} {t rt ty : TypeId} {a b : List UInt8} (hx : ev e x = .string (strOf a)) (hy : ev e y = .string (strOf b)) (h : R (symOps P l k (updO e d (.bool (decide (a = b)))) w)) :
    R (symOps P (⟨d, .hard (H (.binOp .eql t x y rt) ty), none⟩ :: l) k e w) := by
  have hr : (binOp .eql t (.string (strOf a)) (.string (strOf b))).run P w = .ok (.bool (decide (a = b))) w := by
    rw [binOp_string_eql, strOf_list, strOf_list, Sem.run_pure]
    congr 2
    by_cases h : a = b <;> simp [h]
  have hgd : eqGuard .eql t x y (.string (strOf a)) (.string (strOf b)) = pure () := rfl
  exact hard_rule (by simp only [execOp, H, hx, hy, hgd, Sem.run_bind, Sem.run_pure, hr, Result.andThen_ok]) h
end
theorem bytesEqual_spec {w : World} {u v : Value} {a b : List UInt8} (ha : HasB w u a) (hb : HasB w v b) :
    Calls Try.prog 39 #[u, v] w (Ret fun r w' => r = .bool (decide (a = b)) ∧ w' = w) := by
  have hs : Try.prog.underlying 29 = some (.slice 5) := by kernel_rfl
  have he : Try.prog.underlying 5 = some (.int .u8) := by kernel_rfl
  have hd : Try.prog.underlying 9 = some .string := by kernel_rfl
  apply enter39
  apply R_in
  simp (maxSteps := 600000) (disch := omega) only [F39, ↓sy1, sy2, sy3, readOK, sy5, sy6, Nat.reduceEqDiff, ↓reduceIte, sy7, sy8, sy9, sya, oneOf, syb, syc, Nat.reduceAdd, Nat.reduceMul, syd, sye, syf, syg, syh, reduceCtorEq]
  refine conv_rule (by simp only [upd_at, Nat.reduceEqDiff, reduceIte, ev_tmp, ev_const, List.map_cons, List.map_nil]) ha hs he hd ?_
  simp (maxSteps := 600000) (disch := omega) only [↓sy1, sy2, sy3, readOK, sy5, sy6, Nat.reduceEqDiff, ↓reduceIte, sy7, sy8, sy9, sya, oneOf, syb, syc, Nat.reduceAdd, Nat.reduceMul, syd, sye, syf, syg, syh, reduceCtorEq]
  refine conv_rule (by simp only [upd_at, Nat.reduceEqDiff, reduceIte, ev_tmp, ev_const, List.map_cons, List.map_nil]) hb hs he hd ?_
  simp (maxSteps := 600000) (disch := omega) only [↓sy1, sy2, sy3, readOK, sy5, sy6, Nat.reduceEqDiff, ↓reduceIte, sy7, sy8, sy9, sya, oneOf, syb, syc, Nat.reduceAdd, Nat.reduceMul, syd, sye, syf, syg, syh, reduceCtorEq]
  refine streq_rule (a := a) (b := b) (by simp only [upd_at, Nat.reduceEqDiff, reduceIte, ev_tmp, ev_const, List.map_cons, List.map_nil]) (by simp only [upd_at, Nat.reduceEqDiff, reduceIte, ev_tmp, ev_const, List.map_cons, List.map_nil]) ?_
  simp (maxSteps := 600000) (disch := omega) only [↓sy1, sy2, sy3, readOK, sy5, sy6, Nat.reduceEqDiff, ↓reduceIte, sy7, sy8, sy9, sya, oneOf, syb, syc, Nat.reduceAdd, Nat.reduceMul, syd, sye, syf, syg, syh, reduceCtorEq]
  exact R_out trivial
end Go.Proofs.Ytbnecclognibaaa

/- The superblock; how many inodes may be; numbers. -/
namespace Go.Proofs.Ytbnecclognibaaa
open Go
set_option linter.unusedSimpArgs false
open Go.RowKit (intOf)
def dunS : ByteArray := ByteArray.mk #[68, 85, 78, 49]
def dun0 : List UInt8 := [68, 85, 78, 49] ++ List.replicate 508 0
def dunV : List Value := [.int .u8 68, .int .u8 85, .int .u8 78, .int .u8 49]
theorem dunV_cells : ((ByteArray.mk #[68, 85, 78, 49] : ByteArray).extract 0 4).data.map (fun b => Value.int .u8 (b.toNat : Int)) = dunV.toArray := by kernel_rfl
theorem dunV_len : (Builtin.lenOf (.string (ByteArray.mk #[68, 85, 78, 49]))) = pure 4 := by rfl
theorem dun_rule {k : Kont} {e : Env} {w : World} {l : List GOp} {d : Option Nat} {x : Operand} {v : Value} {B : Nat} (ho : w.ownsRow B 5 1 v 512 (bs zsec)) (hx : ev e x = v)
    (hh : ∀ w', Keep (fun b => v.ownBlock = some b) w w' → w'.ownsRow B 5 1 v 512 (bs dun0) → R (symOps Try.prog l k (updO e d (.int .i64 4)) w')) :
    R (symOps Try.prog (⟨d, .hard (H (.call { callee := .builtin .copy, args := #[x, .const (.string (ByteArray.mk #[68, 85, 78, 49]))], argTypes := #[29, 9] }) 3), none⟩ :: l) k e w) := by
  obtain ⟨h0, ⟨_, h2⟩ | ⟨g, cap, cur, rfl, h2, h3, h4, h5, h6, h7⟩⟩ := ho
  · omega
  have hdl : dunV.length = 4 := rfl
  have hst := run_storeCells_at Try.prog g 0 5 dunV 0 cur w h3 (by rw [hdl]; omega) (by simp [Value.oneCell', dunV])
  have hrr := setRow_heap w g cur ((List.take (0 + 0) cur.toList ++ dunV ++ List.drop (0 + 0 + dunV.length) cur.toList).toArray) 5 (0, 0) h3
  have hkk : Keep (fun b => b = g) w (w.setRow g ((List.take (0 + 0) cur.toList ++ dunV ++ List.drop (0 + 0 + dunV.length) cur.toList).toArray)) := ⟨rfl, rfl, rfl, by simp, fun k _ hk => setRow_other w g k _ hk⟩
  generalize w.setRow g ((List.take (0 + 0) cur.toList ++ dunV ++ List.drop (0 + 0 + dunV.length) cur.toList).toArray) = w' at hst hrr hkk
  obtain ⟨i, hi, hz, hsz, hby⟩ := elemB.hi
  have hu := elemB.ht
  refine hard_rule (run_builtin (vs := [.slice (some ⟨g, 0, none⟩) 512 cap, .string (ByteArray.mk #[68, 85, 78, 49])]) (by simp [hx, ev_const]) (fun cs => ?_)) (hh w' (hkk.mono (fun b _ hb => by subst hb; rfl)) ⟨h0, .inr ⟨g, cap, _, rfl, h2, hrr, h4, h5, ?_, ?_⟩⟩)
  · have hf : (Builtin.firstCells 1 4 (.string (ByteArray.mk #[68, 85, 78, 49]))).run Try.prog w = .ok dunV.toArray w := by rw [Builtin.firstCells, dunV_cells]; rfl
    simp only [List.toArray, builtin] at *
    simp [Builtin.copy_, run_underlying hu, dunV_len, sizeOf, typeInfo, hi, hsz, show Nat.min 4 512 = 4 from rfl, hf, hst, goInt]
  · simp [hdl]; omega
  · have h7' : cur.toList.take 512 = bs zsec := by simpa using h7
    have h8 : (cur.toList.drop 4).take 508 = List.replicate 508 (.int .u8 0) := by
      have h9 := congrArg (List.drop 4) h7'
      rw [List.drop_take, bs_zsec] at h9
      rw [List.drop_replicate] at h9
      exact h9
    have hb : bs dun0 = dunV ++ List.replicate 508 (.int .u8 0) := by
      simp only [dun0, bs, List.map_append, List.map_replicate]; rfl
    rw [hb, ← h8]
    have h10 : List.take 512 dunV = dunV := List.take_of_length_le (by rw [hdl]; omega)
    simp [hdl, List.take_append, h10]
/-- The superblock's bytes, one by one. -/
def supV (pages inodes : Nat) : List UInt8 := super4 pages ++ super4 inodes
def supAt (pages inodes j : Nat) : List UInt8 := [68, 85, 78, 49] ++ (supV pages inodes).take j ++ List.replicate (508 - j) 0
theorem supV_length (a b : Nat) : (supV a b).length = 8 := rfl
theorem supAt_zero (a b : Nat) : supAt a b 0 = dun0 := rfl
theorem supAt_end (a b : Nat) : supAt a b 8 = superB a b := by
  unfold supAt superB
  rw [show (supV a b).take 8 = supV a b from List.take_length (l := supV a b), supV]
  exact congrArg (· ++ List.replicate 500 (0 : UInt8)) (List.append_assoc [68, 85, 78, 49] (super4 a) (super4 b)).symm
theorem supAt_set {a b j : Nat} (h : j < 8) : (supAt a b j).set (4 + j) ((supV a b).getD j 0) = supAt a b (j + 1) := by
  have hl := supV_length a b
  have hg : (supV a b)[j]? = some ((supV a b).getD j 0) := by rw [List.getD_eq_getElem?_getD, List.getElem?_eq_getElem (by omega)]; rfl
  have hlt : ((supV a b).take j).length = j := by rw [List.length_take]; omega
  unfold supAt
  rw [show 508 - j = (508 - (j + 1)) + 1 from by omega, List.replicate_succ, List.take_add_one, hg]
  have hidx : 4 + j - ([68, 85, 78, 49] ++ (supV a b).take j).length = 0 := by rw [List.length_append, hlt]; simp
  rw [List.set_append_right _ _ (by rw [List.length_append, hlt]; simp), hidx, List.set_cons_zero]
  simp only [List.append_assoc, List.cons_append, List.nil_append, Option.toList_some]
theorem shr_n {n s : Nat} (hn : n < 9223372036854775808) (hs : s ≤ 24) : binV .shr (.int .i64 (n : Int)) (.int .i64 (s : Int)) = some (.int .i64 ((n / 2 ^ s : Nat) : Int)) := by
  simp only [binV]
  rw [if_neg (by omega), show min ((s : Int).toNat) IntKind.i64.bits = s from by simp [IntKind.bits]; omega]
  have : ((n : Int).fdiv (2 ^ s)) = ((n / 2 ^ s : Nat) : Int) := by
    rw [show ((2 : Int) ^ s) = ((2 ^ s : Nat) : Int) from by simp, Int.ofNat_fdiv]
  rw [this]
theorem sup_val {a b i k : Nat} (hi : i < 2) (hk : k < 4) : (supV a b).getD (4 * i + k) 0 = UInt8.ofNat ((if i = 0 then a else b) / 2 ^ (24 - 8 * k)) := by
  match i, k, hi, hk with
  | 0, 0, _, _ => rfl
  | 0, 1, _, _ => rfl
  | 0, 2, _, _ => rfl
  | 0, 3, _, _ => exact congrArg UInt8.ofNat (by simp)
  | 1, 0, _, _ => rfl
  | 1, 1, _, _ => rfl
  | 1, 2, _, _ => rfl
  | 1, 3, _, _ => exact congrArg UInt8.ofNat (by simp)
set_option maxHeartbeats 2000000 in
theorem super_spec {w : World} {a b : Nat} (ha : a < 65536) (hb : b < 65536) :
    Calls Try.prog 31 #[.int .i64 a, .int .i64 b] w (Ret fun v w' => w'.ownsRow w.heap.size 5 1 v 512 (bs (superB a b)) ∧ Grow w w') := by
  apply enter31
  apply R_in
  simp (maxSteps := 1000000) (disch := omega) only [↓sy1, sy2, sy3, readOK, sy5, sy6, Nat.reduceEqDiff, ↓reduceIte, sy7, sy8, sy9, sya, oneOf, syb, syc, Nat.reduceAdd, Nat.reduceMul, syd, sye, syf, syg, syh, reduceCtorEq, F31]
  refine mkz_rule (fun zv w1 hg1 hz => ?_)
  simp (maxSteps := 1000000) (disch := omega) only [↓sy1, sy2, sy3, readOK, sy5, sy6, Nat.reduceEqDiff, ↓reduceIte, sy7, sy8, sy9, sya, oneOf, syb, syc, Nat.reduceAdd, Nat.reduceMul, syd, sye, syf, syg, syh, reduceCtorEq]
  refine dun_rule hz (by simp only [upd_at, Nat.reduceEqDiff, reduceIte, ev_tmp, ev_const, List.map_cons, List.map_nil]) (fun w2 hk2 ho2 => ?_)
  have hzb : ∀ b, zv.ownBlock = some b → w.heap.size ≤ b := fun b hb => (World.ownsRow.lt hz b hb).1
  have hg2 : Grow w w2 := hg1.then hk2 (fun b hb hh => by have := hzb b hh; omega)
  simp (maxSteps := 1000000) (disch := omega) only [↓sy1, sy2, sy3, readOK, sy5, sy6, Nat.reduceEqDiff, ↓reduceIte, sy7, sy8, sy9, sya, oneOf, syb, syc, Nat.reduceAdd, Nat.reduceMul, syd, sye, syf, syg, syh, reduceCtorEq, fill_gen, fillF_2 (u := .int .i64 (a : Int)) (v := .int .i64 (b : Int)) rfl rfl]
  have hg3 : Grow w2 (w2.alloc (.cells #[.int .i64 a, .int .i64 b] 3)) := (Keep.refl _ _).alloc _
  have hb3 := heap_alloc_new w2 (.cells #[.int .i64 a, .int .i64 b] 3)
  generalize w2.alloc (.cells #[.int .i64 a, .int .i64 b] 3) = w3 at hg3 hb3 ⊢
  have hI := HasI_block2 hb3
  have ho3 := own_grow ho2 hg3
  rw [← supAt_zero a b] at ho3
  have hzne : ∀ b, zv.ownBlock = some b → b ≠ w2.heap.size := fun b hb => by have := (World.ownsRow.lt ho2 b hb).2; omega
  generalize hr : w2.heap.size = r at hb3 hI hzne ⊢
  refine loop_rule (fun e w' => ∃ i : Nat, i ≤ 2 ∧ e 16 = .int .i64 i ∧ e 15 = .int .i64 2 ∧ e 14 = .slice (some ⟨r, 0, none⟩) 2 2 ∧ e 5 = zv ∧ w'.ownsRow w.heap.size 5 1 zv 512 (bs (supAt a b (4 * i))) ∧ HasI w' (.slice (some ⟨r, 0, none⟩) 2 2) [(a : Int), (b : Int)] ∧ Grow w w') (fun e _ => 2 - (intOf (e 16)).toNat)
    ⟨0, by omega, by simp [upd, updO, ev], by simp [upd, updO, ev], by simp [upd, updO, ev], by simp [upd, updO, ev], ho3, hI, hg2.trans hg3⟩ ?_
  rintro e w4 ⟨i, hi, e16, e15, e14, e5, ho4, hI4, hg4⟩
  by_cases hlt : i < 2
  · obtain ⟨x, hx, hc, _⟩ := hI4.getI (i := i) (by simp; omega)
    have hval : [(a : Int), (b : Int)][i] = ((if i = 0 then a else b : Nat) : Int) := by
      match i, hlt with
      | 0, _ => rfl
      | 1, _ => rfl
    rw [hval] at hc
    have hvlt : (if i = 0 then a else b) < 65536 := by split <;> omega
    have hsv : ∀ k, k < 4 → (supV a b).getD (4 * i + k) 0 = UInt8.ofNat ((if i = 0 then a else b) / 2 ^ (24 - 8 * k)) := fun k hk => sup_val hlt hk
    generalize (if i = 0 then a else b) = n at hc hvlt hsv
    simp (maxSteps := 1000000) (disch := omega) only [↓sy1, sy2, sy3, readOK, sy5, sy6, Nat.reduceEqDiff, ↓reduceIte, sy7, sy8, sy9, sya, oneOf, syb, syc, Nat.reduceAdd, Nat.reduceMul, syd, sye, syf, syg, syh, reduceCtorEq, F31_L1, e16, e15, e14, e5, show ((i : Int) < 2) from by omega, decide_true, hx, hc]
    refine loop_rule (fun e w' => ∃ k : Nat, k ≤ 4 ∧ e 21 = .int .i64 k ∧ e 6 = .int .i64 i ∧ e 7 = .int .i64 n ∧ e 16 = .int .i64 i ∧ e 15 = .int .i64 2 ∧ e 14 = .slice (some ⟨r, 0, none⟩) 2 2 ∧ e 5 = zv ∧ w'.ownsRow w.heap.size 5 1 zv 512 (bs (supAt a b (4 * i + k))) ∧ HasI w' (.slice (some ⟨r, 0, none⟩) 2 2) [(a : Int), (b : Int)] ∧ Grow w w') (fun e _ => 4 - (intOf (e 21)).toNat)
      ⟨0, by omega, by simp [upd, updO, ev], by simp [upd, updO, ev], by simp [upd, updO, ev], by simp [upd, updO, ev, e16], by simp [upd, updO, ev, e15], by simp [upd, updO, ev, e14], by simp [upd, updO, ev, e5], ho4, hI4, hg4⟩ ?_
    rintro e w5 ⟨k, hk, e21, e6, e7, e16, e15, e14, e5, ho5, hI5, hg5⟩
    by_cases hk4 : k < 4
    · have hpos : (4 : Int) + 4 * (i : Int) + (k : Int) = ((4 + (4 * i + k) : Nat) : Int) := by omega
      have hsh : (24 : Int) - 8 * (k : Int) = ((24 - 8 * k : Nat) : Int) := by omega
      obtain ⟨y, w6, hy, hst, ho6, hk6, hbk⟩ := own_store ho5 (i := 4 + (4 * i + k)) (by omega) (u := .int .u8 (((supV a b).getD (4 * i + k) 0).toNat : Int)) rfl
      have hset : (bs (supAt a b (4 * i + k))).set (4 + (4 * i + k)) (.int .u8 (((supV a b).getD (4 * i + k) 0).toNat : Int)) = bs (supAt a b (4 * i + k + 1)) := by
        rw [← supAt_set (a := a) (b := b) (j := 4 * i + k) (by omega)]; simp [bs, List.map_set]
      rw [hset] at ho6
      have hbyte : ((n / 2 ^ (24 - 8 * k) : Nat) : Int) % 256 = (((supV a b).getD (4 * i + k) 0).toNat : Int) := by
        rw [hsv k hk4, UInt8.toNat_ofNat']; omega
      simp (maxSteps := 1000000) (disch := omega) only [↓sy1, sy2, sy3, readOK, sy5, sy6, Nat.reduceEqDiff, ↓reduceIte, sy7, sy8, sy9, sya, oneOf, syb, syc, Nat.reduceAdd, Nat.reduceMul, syd, sye, syf, syg, syh, reduceCtorEq, F31_L0, e21, e6, e7, e16, e15, e14, e5, show ((k : Int) < 4) from by omega, decide_true, hpos, hsh, shr_n (n := n) (s := 24 - 8 * k) (by omega) (by omega), hbyte, hy, hst]
      refine R_out ⟨⟨k + 1, by omega, rfl, ho6, hI5.keep hk6 (fun b hb _ hh => hzne b hh (by cases hb; rfl)), hg5.then hk6 (fun b hb hh => by have := hzb b hh; omega)⟩, by simp only [intOf]; omega⟩
    · have hk' : k = 4 := by omega
      subst hk'
      simp (maxSteps := 1000000) (disch := omega) only [↓sy1, sy2, sy3, readOK, sy5, sy6, Nat.reduceEqDiff, ↓reduceIte, sy7, sy8, sy9, sya, oneOf, syb, syc, Nat.reduceAdd, Nat.reduceMul, syd, sye, syf, syg, syh, reduceCtorEq, F31_L0, e21, e6, e7, e16, e15, e14, e5, show ¬ (((4 : Nat) : Int) < 4) from by omega, decide_false]
      exact R_out ⟨⟨i + 1, by omega, rfl, ho5, hI5, hg5⟩, by simp only [intOf]; omega⟩
  · have hi' : i = 2 := by omega
    subst hi'
    rw [show 4 * 2 = 8 from rfl, supAt_end] at ho4
    simp (maxSteps := 1000000) (disch := omega) only [↓sy1, sy2, sy3, readOK, sy5, sy6, Nat.reduceEqDiff, ↓reduceIte, sy7, sy8, sy9, sya, oneOf, syb, syc, Nat.reduceAdd, Nat.reduceMul, syd, sye, syf, syg, syh, reduceCtorEq, F31_L1, e16, e15, e14, e5, show ¬ (((2 : Nat) : Int) < 2) from by omega, decide_false]
    exact R_out ⟨ho4, hg4⟩
end Go.Proofs.Ytbnecclognibaaa

/- A map is made; one is opened. -/
namespace Go.Proofs.Ytbnecclognibaaa
open Go
set_option linter.unusedSimpArgs false
open Go.RowKit (intOf)
def upto1 (n N : Nat) : List Bool := (List.range N).map fun j => decide (j < n)
theorem upto1_length (n N : Nat) : (upto1 n N).length = N := by simp [upto1]
theorem upto1_get {n N j : Nat} (h : j < N) : (upto1 n N)[j]? = some (decide (j < n)) := by simp [upto1, h]
def orB (b : List UInt8) (i : Nat) : List UInt8 := b.set (i / 8) (UInt8.ofNat ((b.getD (i / 8) 0).toNat ||| 2 ^ (i % 8)))
theorem orB_length (b : List UInt8) (i : Nat) : (orB b i).length = b.length := by simp [orB]
theorem or1_lt {x : UInt8} {j : Nat} (hj : j < 8) : x.toNat ||| 2 ^ j < 2 ^ 8 := Nat.or_lt_two_pow x.toNat_lt (Nat.pow_lt_pow_right (by omega) hj)
theorem bitB_or {b : List UInt8} {i j : Nat} (h : i / 8 < b.length) : bitB (orB b i) j = if j = i then true else bitB b j := by
  unfold bitB orB
  by_cases hd : j / 8 = i / 8
  · rw [hd, List.getD_eq_getElem?_getD, List.getElem?_set_self h, Option.getD_some, UInt8.toNat_ofNat', Nat.mod_eq_of_lt (or1_lt (by omega)), Nat.testBit_or, Nat.testBit_two_pow]
    by_cases hm : j % 8 = i % 8
    · rw [if_pos (by omega), decide_eq_true (by omega), Bool.or_true]
    · rw [if_neg (by omega), decide_eq_false (by omega), Bool.or_false]
  · rw [List.getD_eq_getElem?_getD, List.getElem?_set_ne (Ne.symm hd), ← List.getD_eq_getElem?_getD, if_neg (by omega)]
theorem shl_or {x : UInt8} {i : Nat} (hi : i < 8) : ∃ a, binV .shl (.int .u8 1) (.int .i64 (i : Int)) = some (.int .u8 a) ∧ binV .or (.int .u8 (x.toNat : Int)) (.int .u8 a) = some (.int .u8 ((UInt8.ofNat (x.toNat ||| 2 ^ i)).toNat : Int)) := by
  have h := bit_at (x := x.toNat) x.toNat_lt hi
  simp only [bitChk, Bool.and_eq_true, decide_eq_true_eq] at h
  refine ⟨IntKind.u8.wrap (1 * 2 ^ (min ((i : Int).toNat) 8)), ?_, ?_⟩
  · simp only [binV]; rw [if_neg (by omega)]; rfl
  · simp only [binV]; rw [if_pos trivial]
    refine congrArg (fun z => some (Value.int .u8 z)) (h.1.2.trans ?_)
    rw [UInt8.toNat_ofNat', Nat.mod_eq_of_lt (or1_lt hi)]
/-- The first n bits set. -/
def bitRow : Nat → List UInt8
  | 0 => zsec
  | n + 1 => orB (bitRow n) n
theorem bitRow_length : ∀ n, (bitRow n).length = 512
  | 0 => zsec_length
  | n + 1 => by rw [bitRow, orB_length, bitRow_length n]
theorem bitB_zsec (j : Nat) : bitB zsec j = false := by
  have h0 : (zsec.getD (j / 8) 0) = 0 := by
    rw [List.getD_eq_getElem?_getD, zsec, List.getElem?_replicate]
    split <;> rfl
  unfold bitB
  rw [h0]; exact Nat.zero_testBit _
theorem bitRow_bit : ∀ n j, n ≤ 4096 → bitB (bitRow n) j = decide (j < n)
  | 0, j, _ => bitB_zsec j
  | n + 1, j, h => by
    rw [bitRow, bitB_or (by rw [bitRow_length]; omega), bitRow_bit n j (by omega)]
    by_cases hj : j = n
    · rw [if_pos hj]; exact (decide_eq_true (by omega)).symm
    · rw [if_neg hj]; exact decide_eq_decide.2 (by omega)
def oneRow : List UInt8 := zsec.set 0 1
theorem oneRow_length : oneRow.length = 512 := by rw [oneRow, List.length_set, zsec_length]
theorem oneRow_bit (j : Nat) : bitB oneRow j = decide (j < 1) := by
  by_cases hj : j / 8 = 0
  · unfold bitB oneRow
    rw [hj, List.getD_eq_getElem?_getD, List.getElem?_set_self (by rw [zsec_length]; omega), Option.getD_some]
    have : j = 0 ∨ j = 1 ∨ j = 2 ∨ j = 3 ∨ j = 4 ∨ j = 5 ∨ j = 6 ∨ j = 7 := by omega
    rcases this with rfl | rfl | rfl | rfl | rfl | rfl | rfl | rfl <;> decide
  · have h1 : bitB oneRow j = bitB zsec j := by
      unfold bitB oneRow
      rw [List.getD_eq_getElem?_getD, List.getElem?_set_ne (by omega), ← List.getD_eq_getElem?_getD]
    rw [h1, bitB_zsec]; exact (decide_eq_false (by omega)).symm
theorem bitsOf_row {n N : Nat} (h : n ≤ 4096) : bitsOf (bitRow n) N = upto1 n N := List.map_congr_left fun j _ => bitRow_bit n j h
theorem bitsOf_one (N : Nat) : bitsOf oneRow N = upto1 1 N := List.map_congr_left fun j _ => oneRow_bit j
/-- Pages are written, one behind the other. -/
def wrN (c : Csh) (ls : List (List UInt8)) : Nat → Csh
  | 0 => c
  | n + 1 => (wrN c ls n).write n (ls.getD n [])
section
variable {c : Csh} {ls : List (List UInt8)}
theorem wrN_N (c : Csh) (ls : List (List UInt8)) : ∀ n, (wrN c ls n).N = c.N ∧ (wrN c ls n).D = c.D ∧ (wrN c ls n).size = c.size ∧ (wrN c ls n).most = c.most
  | 0 => ⟨rfl, rfl, rfl, rfl⟩
  | n + 1 => wrN_N c ls n
theorem wrN_page : ∀ n m, (wrN c ls n).page m = if m < n then ls.getD m [] else c.page m
  | 0, m => by rw [if_neg (by omega)]; rfl
  | n + 1, m => by
    rw [wrN, Csh.write_page, wrN_page n m]
    by_cases h : m = n
    · subst h; rw [if_pos rfl, if_pos (by omega)]
    · rw [if_neg h]
      by_cases h2 : m < n
      · rw [if_pos h2, if_pos (by omega)]
      · rw [if_neg h2, if_neg (by omega)]
theorem wrN_dirty : ∀ n, n ≤ c.N → (wrN c ls n).dirty.length ≤ c.dirty.length + n
  | 0, _ => by simp [wrN]
  | n + 1, h => by
    have h1 := wrN_dirty n (by omega)
    rw [wrN, write_dirty (by rw [(wrN_N c ls n).1]; omega)]
    split <;> omega
end
theorem Alc.made {c : Csh} {ls : List (List UInt8)} {k : Nat} (hm : mayA c.N k) (h0 : ls.getD 0 [] = superB c.N k) (h1 : ls.getD 1 [] = oneRow) (h2 : ls.getD 2 [] = bitRow (3 + k / 8)) : Alc (wrN c ls (3 + k / 8)) (upto1 (3 + k / 8) c.N) (upto1 1 k) := by
  have hm' := hm
  unfold mayA at hm'
  have hN := (wrN_N c ls (3 + k / 8)).1
  refine ⟨?_, ?_, ?_, ?_, fun j hj => ?_, ?_⟩
  · rw [wrN_page, if_pos (by omega), h0, hN, upto1_length]
  · rw [wrN_page, if_pos (by omega), h2, hN, bitsOf_row (by omega)]
  · rw [wrN_page, if_pos (by omega), h1, upto1_length, bitsOf_one]
  · rw [hN, upto1_length]; exact hm
  · rw [upto1_length] at hj; rw [upto1_get (by omega), decide_eq_true (by omega)]
  · rw [upto1_get (by omega)]; rfl
theorem may_spec {w : World} {a : Nat} {b : Int} : Calls Try.prog 30 #[.int .i64 a, .int .i64 b] w (Ret fun v w' => v = .bool (decide (mayA a b)) ∧ w' = w) := by
  apply enter30
  apply R_in
  by_cases h1 : 8 ≤ b
  · obtain ⟨k, rfl⟩ : ∃ k : Nat, b = k := ⟨b.toNat, by omega⟩
    have hmod : ((k : Int)).tmod 8 = ((k % 8 : Nat) : Int) := rfl
    have hdiv : ((k : Int)).tdiv 8 = ((k / 8 : Nat) : Int) := rfl
    by_cases h2 : (k : Int) ≤ 512
    · by_cases h3 : k % 8 = 0
      · by_cases h4 : a ≤ 4096
        · by_cases h5 : 3 + k / 8 < a
          · simp (maxSteps := 1000000) (disch := omega) only [↓sy1, sy2, sy3, readOK, sy5, sy6, Nat.reduceEqDiff, ↓reduceIte, sy7, sy8, sy9, sya, oneOf, syb, syc, Nat.reduceAdd, Nat.reduceMul, syd, sye, syf, syg, syh, reduceCtorEq, F30, h1, h2, decide_true, hmod, hdiv, show (((k % 8 : Nat) : Int) = 0) from by omega, show ((a : Int) ≤ 4096) from by omega, show ((3 : Int) + ((k / 8 : Nat) : Int) < (a : Int)) from by omega]
            refine R_out ?_
            rw [decide_eq_true (p := mayA a k) (by unfold mayA; omega)]
          · simp (maxSteps := 1000000) (disch := omega) only [↓sy1, sy2, sy3, readOK, sy5, sy6, Nat.reduceEqDiff, ↓reduceIte, sy7, sy8, sy9, sya, oneOf, syb, syc, Nat.reduceAdd, Nat.reduceMul, syd, sye, syf, syg, syh, reduceCtorEq, F30, h1, h2, decide_true, hmod, hdiv, show (((k % 8 : Nat) : Int) = 0) from by omega, show ((a : Int) ≤ 4096) from by omega, show ¬ ((3 : Int) + ((k / 8 : Nat) : Int) < (a : Int)) from by omega, decide_false]
            refine R_out ?_
            rw [decide_eq_false (p := mayA a k) (by unfold mayA; omega)]
        · simp (maxSteps := 1000000) (disch := omega) only [↓sy1, sy2, sy3, readOK, sy5, sy6, Nat.reduceEqDiff, ↓reduceIte, sy7, sy8, sy9, sya, oneOf, syb, syc, Nat.reduceAdd, Nat.reduceMul, syd, sye, syf, syg, syh, reduceCtorEq, F30, h1, h2, decide_true, hmod, hdiv, show (((k % 8 : Nat) : Int) = 0) from by omega, show ¬ ((a : Int) ≤ 4096) from by omega, decide_false]
          refine R_out ?_
          rw [decide_eq_false (p := mayA a k) (by unfold mayA; omega)]
      · simp (maxSteps := 1000000) (disch := omega) only [↓sy1, sy2, sy3, readOK, sy5, sy6, Nat.reduceEqDiff, ↓reduceIte, sy7, sy8, sy9, sya, oneOf, syb, syc, Nat.reduceAdd, Nat.reduceMul, syd, sye, syf, syg, syh, reduceCtorEq, F30, h1, h2, decide_true, hmod, hdiv, show ¬ (((k % 8 : Nat) : Int) = 0) from by omega, decide_false]
        refine R_out ?_
        rw [decide_eq_false (p := mayA a k) (by unfold mayA; omega)]
    · simp (maxSteps := 1000000) (disch := omega) only [↓sy1, sy2, sy3, readOK, sy5, sy6, Nat.reduceEqDiff, ↓reduceIte, sy7, sy8, sy9, sya, oneOf, syb, syc, Nat.reduceAdd, Nat.reduceMul, syd, sye, syf, syg, syh, reduceCtorEq, F30, h1, h2, decide_true, decide_false]
      refine R_out ?_
      rw [decide_eq_false (p := mayA a k) (by unfold mayA; omega)]
  · simp (maxSteps := 1000000) (disch := omega) only [↓sy1, sy2, sy3, readOK, sy5, sy6, Nat.reduceEqDiff, ↓reduceIte, sy7, sy8, sy9, sya, oneOf, syb, syc, Nat.reduceAdd, Nat.reduceMul, syd, sye, syf, syg, syh, reduceCtorEq, F30, h1, decide_false]
    refine R_out ?_
    rw [decide_eq_false (p := mayA a b) (by unfold mayA; omega)]
theorem numbers_spec {w : World} {n : Nat} (hn : n ≤ 100000) : Calls Try.prog 33 #[.int .i64 n] w (Ret fun v w' => HasI w' v (zs (List.range n)) ∧ Grow w w') := by
  apply enter33
  apply R_in
  simp (maxSteps := 1000000) (disch := omega) only [↓sy1, sy2, sy3, readOK, sy5, sy6, Nat.reduceEqDiff, ↓reduceIte, sy7, sy8, sy9, sya, oneOf, syb, syc, Nat.reduceAdd, Nat.reduceMul, syd, sye, syf, syg, syh, reduceCtorEq, F33]
  refine loop_rule (fun e w' => ∃ i : Nat, i ≤ n ∧ e 6 = .int .i64 i ∧ e 5 = .int .i64 n ∧ w'.ownsRow w.heap.size 3 1 (e 3) i (ints (zs (List.range i))) ∧ Grow w w') (fun e _ => n - (intOf (e 6)).toNat)
    ⟨0, by omega, by simp [upd, updO, ev], by simp [upd, updO, ev], by simpa [upd, updO, ev, zs, ints] using World.ownsRow_nil w _ _ _, Keep.refl _ _⟩ ?_
  rintro e w1 ⟨i, hi, e6, e5, ho, hg⟩
  by_cases hlt : i < n
  · simp (maxSteps := 1000000) (disch := omega) only [↓sy1, sy2, sy3, readOK, sy5, sy6, Nat.reduceEqDiff, ↓reduceIte, sy7, sy8, sy9, sya, oneOf, syb, syc, Nat.reduceAdd, Nat.reduceMul, syd, sye, syf, syg, syh, reduceCtorEq, F33_L0, e6, e5, Int.ofNat_lt, hlt, decide_true]
    have hga : Grow w1 (w1.alloc (.cells #[.int .i64 (i : Int)] 3)) := (Keep.refl _ _).alloc _
    refine app_own elemI (by simp only [upd_at, Nat.reduceEqDiff, reduceIte, ev_tmp, ev_const, List.map_cons, List.map_nil]) (by simp only [upd_at, Nat.reduceEqDiff, reduceIte, ev_tmp, ev_const, List.map_cons, List.map_nil]) (own_grow ho hga) Has.new1 (m := 1) rfl (by simp [isCell]) (by omega) (by omega) (by have := hga.size; have := hg.size; omega) ?_
    intro v' w2 ho2 hg2
    simp (maxSteps := 1000000) (disch := omega) only [↓sy1, sy2, sy3, readOK, sy5, sy6, Nat.reduceEqDiff, ↓reduceIte, sy7, sy8, sy9, sya, oneOf, syb, syc, Nat.reduceAdd, Nat.reduceMul, syd, sye, syf, syg, syh, reduceCtorEq, e6, e5]
    refine R_out ⟨⟨i + 1, by omega, rfl, ?_, (hg.trans hga).then (Keep.grown hg2) (fun b hb hh => ?_)⟩, by simp only [intOf]; omega⟩
    · have : ints (zs (List.range i)) ++ [.int .i64 (i : Int)] = ints (zs (List.range (i + 1))) := by simp [List.range_succ, ints, zs]
      rw [this] at ho2; exact ho2
    · have := (World.ownsRow.lt ho b hh.symm).1; omega
  · have hie : i = n := by omega
    subst hie
    simp (maxSteps := 1000000) (disch := omega) only [↓sy1, sy2, sy3, readOK, sy5, sy6, Nat.reduceEqDiff, ↓reduceIte, sy7, sy8, sy9, sya, oneOf, syb, syc, Nat.reduceAdd, Nat.reduceMul, syd, sye, syf, syg, syh, reduceCtorEq, F33_L0, e6, e5, Int.ofNat_lt, hlt, decide_false]
    exact R_out ⟨Has.own ho, hg⟩
end Go.Proofs.Ytbnecclognibaaa

/- What a head says, in plain words; a head of any bytes is read; a log is opened over any disk. -/
namespace Go.Proofs.Ytbnecclognibaaa
open Go
set_option linter.unusedSimpArgs false
open Go.RowKit (intOf)
def twoB (b : List UInt8) (i : Nat) : Nat := (b.getD i 0).toNat * 256 + (b.getD (i + 1) 0).toNat
theorem twoB_lt (b : List UInt8) (i : Nat) : twoB b i < 65536 := by
  have h1 := (b.getD i 0).toNat_lt
  have h2 := (b.getD (i + 1) 0).toNat_lt
  unfold twoB; omega
theorem twoB_zero (b : List UInt8) (k : Nat) : twoB (b.drop k) 0 = twoB b k := by
  simp [twoB, List.getElem?_drop]
theorem twoB_cons (x y : UInt8) (l : List UInt8) : twoB (x :: y :: l) 0 = x.toNat * 256 + y.toNat := rfl
theorem twoB_get {l : List UInt8} (h : 2 ≤ l.length) : l[0].toNat * 256 + l[1].toNat = twoB l 0 := by
  match l, h with
  | x :: y :: l, _ => rfl
def numsOf (b : List UInt8) (n : Nat) : List Nat := (List.range n).map fun i => twoB b (4 + 2 * i)
theorem numsOf_length (b : List UInt8) (n : Nat) : (numsOf b n).length = n := by simp [numsOf]
theorem numsOf_succ (b : List UInt8) (i : Nat) : numsOf b (i + 1) = numsOf b i ++ [twoB b (4 + 2 * i)] := by simp [numsOf, List.range_succ]
theorem numsOf_take (b : List UInt8) {n i : Nat} (h : i ≤ n) : (numsOf b n).take i = numsOf b i := by simp [numsOf, ← List.map_take, List.take_range, Nat.min_eq_left h]
def goodN (pages : Nat) (l : List Nat) : Prop := l.Pairwise (· < ·) ∧ ∀ p ∈ l, p < pages
instance (pages : Nat) (l : List Nat) : Decidable (goodN pages l) := by unfold goodN; infer_instance
def lastI (l : List Nat) : Int := match l.getLast? with | some x => (x : Int) | none => -1
theorem lastI_snoc (l : List Nat) (p : Nat) : lastI (l ++ [p]) = p := by simp [lastI]
theorem goodN_nil (pages : Nat) : goodN pages [] := ⟨List.Pairwise.nil, fun _ h => by simp at h⟩
theorem goodN_take {pages : Nat} {l : List Nat} (h : goodN pages l) (i : Nat) : goodN pages (l.take i) := ⟨h.1.sublist (List.take_sublist ..), fun p hp => h.2 p (List.mem_of_mem_take hp)⟩
theorem goodN_snoc {pages : Nat} {l : List Nat} {p : Nat} : goodN pages (l ++ [p]) ↔ goodN pages l ∧ lastI l < p ∧ p < pages := by
  constructor
  · rintro ⟨h1, h2⟩
    rw [List.pairwise_append] at h1
    refine ⟨⟨h1.1, fun q hq => h2 q (by simp [hq])⟩, ?_, h2 p (by simp)⟩
    unfold lastI
    split
    · rename_i x hx
      have := h1.2.2 x (List.mem_of_getLast? hx) p (by simp); omega
    · omega
  · rintro ⟨⟨h1, h2⟩, h3, h4⟩
    refine ⟨List.pairwise_append.2 ⟨h1, by simp, fun a ha c hc => ?_⟩, fun q hq => ?_⟩
    · simp at hc; subst hc
      obtain ⟨i, hi, rfl⟩ := List.getElem_of_mem ha
      have hne : l ≠ [] := fun h => by simp [h] at hi
      unfold lastI at h3
      rw [List.getLast?_eq_some_getLast hne] at h3
      simp only [List.getLast_eq_getElem] at h3
      by_cases hl : i = l.length - 1
      · subst hl; omega
      · have := List.pairwise_iff_getElem.1 h1 i (l.length - 1) hi (by omega) (by omega); omega
    · rcases List.mem_append.1 hq with hq | hq
      · exact h2 q hq
      · simp at hq; omega
open Classical in
/-- The numbers that a head has; none: it is no head. -/
noncomputable def headOf (cap pages : Nat) (b : List UInt8) : Option (List Nat) :=
  if ∀ x ∈ b, x = 0 then some []
  else if b.getD 0 0 = 0x44 ∧ b.getD 1 0 = 0x4e ∧ twoB b 2 ≤ cap ∧ (∀ x ∈ b.drop (4 + 2 * twoB b 2), x = 0) ∧ goodN pages (numsOf b (twoB b 2)) then some (numsOf b (twoB b 2)) else none
theorem headOf_zsec (cap pages : Nat) : headOf cap pages zsec = some [] := by
  have h : ∀ x ∈ zsec, x = 0 := fun x hx => (List.mem_replicate.1 hx).2
  rw [headOf, if_pos h]
theorem headOf_good {cap pages : Nat} {b : List UInt8} {ns : List Nat} (h : headOf cap pages b = some ns) : goodN pages ns ∧ ns.length ≤ cap := by
  unfold headOf at h
  split at h
  · cases h; exact ⟨goodN_nil _, Nat.zero_le _⟩
  · split at h
    · rename_i hc; cases h; exact ⟨hc.2.2.2.2, by rw [numsOf_length]; exact hc.2.2.1⟩
    · cases h
theorem headOf_headB {cap pages : Nat} {ns : List Nat} (hc : cap ≤ 100) (hl : ns.length ≤ cap) (hp : pages ≤ 65536) (hg : goodN pages ns) : headOf cap pages (headB ns) = some ns := by
  have h2 : twoB (headB ns) 2 = ns.length := by
    obtain ⟨r, hr⟩ := headB_two ns
    rw [← twoB_zero, hr, twoB_cons, hi_lo (by omega)]
  have hn : numsOf (headB ns) ns.length = ns := by
    refine List.ext_getElem (numsOf_length _ _) fun i h1 h2 => ?_
    simp only [numsOf, List.getElem_map, List.getElem_range]
    obtain ⟨r, hr⟩ := headB_at ns h2
    rw [← twoB_zero, hr, twoB_cons, hi_lo (by have := hg.2 _ (List.getElem_mem h2); omega)]
  rw [headOf, if_neg (fun h => absurd (h 0x44 (by simp [headB])) (by decide)), h2, hn, if_pos ⟨rfl, rfl, hl, by rw [headB_tail]; exact fun x hx => (List.mem_replicate.1 hx).2, hg⟩]
theorem u8_68 {b : UInt8} (h : (b.toNat : Int) = 68) : b = 0x44 := UInt8.toNat_inj.1 (by have h2 : b.toNat = 68 := by omega
                                                                                         rw [h2]; rfl)
theorem u8_78 {b : UInt8} (h : (b.toNat : Int) = 78) : b = 0x4e := UInt8.toNat_inj.1 (by have h2 : b.toNat = 78 := by omega
                                                                                         rw [h2]; rfl)
noncomputable def Dsk.head (size : Nat) (D : Dsk) : Option (List Nat) := headOf (min size 100) (D.first.length - size - 1) (D.image.getD 0 [])
theorem Dsk.image0 {D : Dsk} (h : D.Ok) : D.image.getD 0 [] = D.image[0]'(by rw [D.image_length]; exact h.some) := by
  rw [List.getD_eq_getElem?_getD, List.getElem?_eq_getElem]; rfl
/-- What head answers. -/
def HeadRes (B : Nat) (o : Option (List Nat)) (v : Value) (w' : World) : Prop := match o with
  | some ns => ∃ u, v = .tuple #[u, .bool true] ∧ w'.ownsRow B 3 1 u ns.length (ints (zs ns))
  | none => v = .tuple #[.slice none 0 0, .bool false]
set_option maxHeartbeats 1000000 in
theorem headg_spec {G : Gh} {κ : Nat} {w : World} {q size came : Nat} {D : Dsk} (h : LogAt G κ w q size came D) :
    Calls Try.prog 50 #[.pointer (some ⟨q, 0, none⟩)] w (Ret fun v w' => HeadRes w.heap.size (D.head size) v w' ∧ Grow w w') := by
  obtain ⟨p, hd, hc⟩ := h.cells
  have hs2 := h.2.2.1
  have hmost := hd.ok.most
  have hb512 : (D.image.getD 0 []).length = 512 := by rw [Dsk.image0 hd.ok]; exact hd.ok.image _ (List.getElem_mem _)
  unfold Dsk.head
  generalize hbb : D.image.getD 0 [] = bb at hb512 ⊢
  rw [Dsk.image0 hd.ok] at hbb
  apply enter50
  apply R_in
  simp (maxSteps := 600000) (disch := omega) only [F50, ↓sy1, sy2, sy3, readOK, sy5, sy6, Nat.reduceEqDiff, ↓reduceIte, sy7, sy8, sy9, sya, oneOf, syb, syc, Nat.reduceAdd, Nat.reduceMul, syd, sye, syf, syg, syh, reduceCtorEq, hc (Keep.refl _ _)]
  refine call0 (read_spec hd (n := 0) (by omega)) ?_
  rintro _ w1 ⟨b, rfl, hb, hg1⟩
  rw [hbb] at hb
  have hB := Has.own hb
  simp (maxSteps := 600000) (disch := omega) only [↓sy1, sy2, sy3, readOK, sy5, sy6, Nat.reduceEqDiff, ↓reduceIte, sy7, sy8, sy9, sya, oneOf, syb, syc, Nat.reduceAdd, Nat.reduceMul, syd, sye, syf, syg, syh, reduceCtorEq]
  refine call0 (zeros_spec hB (by omega)) ?_
  rintro v w2 ⟨⟨hall, rfl⟩ | ⟨hno, rfl⟩, rfl⟩
  · simp (maxSteps := 600000) (disch := omega) only [↓sy1, sy2, sy3, readOK, sy5, sy6, Nat.reduceEqDiff, ↓reduceIte, sy7, sy8, sy9, sya, oneOf, syb, syc, Nat.reduceAdd, Nat.reduceMul, syd, sye, syf, syg, syh, reduceCtorEq]
    refine R_out ?_
    rw [headOf, if_pos hall]
    exact ⟨⟨_, rfl, World.ownsRow_nil _ _ _ _⟩, hg1⟩
  obtain ⟨v2, hv2, hH2⟩ := hB.slcFrom (m := 2) (by rw [bs_length]; omega)
  rw [bs_drop] at hH2
  have hv2' : slcF 1 b (some (.int .i64 2)) none none = some v2 := hv2
  simp (maxSteps := 600000) (disch := omega) only [↓sy1, sy2, sy3, readOK, sy5, sy6, Nat.reduceEqDiff, ↓reduceIte, sy7, sy8, sy9, sya, oneOf, syb, syc, Nat.reduceAdd, Nat.reduceMul, syd, sye, syf, syg, syh, reduceCtorEq, hv2']
  refine call0 (two_spec hH2 (by rw [List.length_drop]; omega)) ?_
  rintro _ w3 ⟨rfl, hg3⟩
  rw [twoB_get (by rw [List.length_drop]; omega), twoB_zero]
  have hB3 := hB.grow hg3
  obtain ⟨a0, ha0, hac0, _⟩ := hB3.getB (i := 0) (by omega)
  obtain ⟨a1, ha1, hac1, _⟩ := hB3.getB (i := 1) (by omega)
  have hb0 : bb[0] = bb.getD 0 0 := by rw [List.getD_eq_getElem?_getD, List.getElem?_eq_getElem]; rfl
  have hb1 : bb[1] = bb.getD 1 0 := by rw [List.getD_eq_getElem?_getD, List.getElem?_eq_getElem]; rfl
  rw [hb0] at hac0
  rw [hb1] at hac1
  have ha0' : iaF 1 b (.int .i64 0) = some (.pointer (some a0)) := ha0
  have ha1' : iaF 1 b (.int .i64 1) = some (.pointer (some a1)) := ha1
  have hbad : ∀ {w' : World}, Grow w w' → ¬ (bb.getD 0 0 = 0x44 ∧ bb.getD 1 0 = 0x4e ∧ twoB bb 2 ≤ min size 100 ∧ (∀ x ∈ bb.drop (4 + 2 * twoB bb 2), x = 0) ∧ goodN (D.first.length - size - 1) (numsOf bb (twoB bb 2))) →
      R (HeadRes w.heap.size (headOf (min size 100) (D.first.length - size - 1) bb) (.tuple #[.slice none 0 0, .bool false]) w' ∧ Grow w w') := fun {w'} hg hn => by
    refine R_out ?_
    rw [headOf, if_neg hno, if_neg hn]
    exact ⟨rfl, hg⟩
  have hn2 := twoB_lt bb 2
  generalize hn : twoB bb 2 = n at hn2 hbad ⊢
  by_cases c0 : bb.getD 0 0 = 0x44
  rotate_left
  · have c0' : ¬ (((bb.getD 0 0).toNat : Int) = 68) := fun hc => c0 (u8_68 hc)
    simp (maxSteps := 600000) (disch := omega) only [↓sy1, sy2, sy3, readOK, sy5, sy6, Nat.reduceEqDiff, ↓reduceIte, sy7, sy8, sy9, sya, oneOf, syb, syc, Nat.reduceAdd, Nat.reduceMul, syd, sye, syf, syg, syh, reduceCtorEq, ha0', hac0, c0', decide_false]
    exact hbad (hg1.trans hg3) (fun hc => c0 hc.1)
  have c0' : (((bb.getD 0 0).toNat : Int) = 68) = True := by rw [c0]; simp
  by_cases c1 : bb.getD 1 0 = 0x4e
  rotate_left
  · have c1' : ¬ (((bb.getD 1 0).toNat : Int) = 78) := fun hc => c1 (u8_78 hc)
    simp (maxSteps := 600000) (disch := omega) only [↓sy1, sy2, sy3, readOK, sy5, sy6, Nat.reduceEqDiff, ↓reduceIte, sy7, sy8, sy9, sya, oneOf, syb, syc, Nat.reduceAdd, Nat.reduceMul, syd, sye, syf, syg, syh, reduceCtorEq, ha0', hac0, c0', ha1', hac1, c1', decide_false, decide_true]
    exact hbad (hg1.trans hg3) (fun hc => c1 hc.2.1)
  have c1' : (((bb.getD 1 0).toNat : Int) = 78) = True := by rw [c1]; simp
  simp (maxSteps := 600000) (disch := omega) only [↓sy1, sy2, sy3, readOK, sy5, sy6, Nat.reduceEqDiff, ↓reduceIte, sy7, sy8, sy9, sya, oneOf, syb, syc, Nat.reduceAdd, Nat.reduceMul, syd, sye, syf, syg, syh, reduceCtorEq, ha0', hac0, c0', ha1', hac1, c1', decide_true]
  refine call0 (capacity_spec (h.grow (hg1.trans hg3))) ?_
  rintro _ w4 ⟨rfl, rfl⟩
  by_cases c2 : n ≤ min size 100
  rotate_left
  · have c2' : ((min size 100 : Nat) : Int) < (n : Int) := by omega
    simp (maxSteps := 600000) (disch := omega) only [↓sy1, sy2, sy3, readOK, sy5, sy6, Nat.reduceEqDiff, ↓reduceIte, sy7, sy8, sy9, sya, oneOf, syb, syc, Nat.reduceAdd, Nat.reduceMul, syd, sye, syf, syg, syh, reduceCtorEq, c2', decide_true]
    exact hbad (hg1.trans hg3) (fun hc => c2 hc.2.2.1)
  obtain ⟨v5, hv5, hH5⟩ := hB3.slcFrom (m := 4 + 2 * n) (by rw [bs_length]; omega)
  rw [bs_drop] at hH5
  have hcast5 : (4 : Int) + 2 * (n : Int) = ((4 + 2 * n : Nat) : Int) := by omega
  have hng : ¬ (((min size 100 : Nat) : Int) < (n : Int)) := by omega
  simp (maxSteps := 600000) (disch := omega) only [↓sy1, sy2, sy3, readOK, sy5, sy6, Nat.reduceEqDiff, ↓reduceIte, sy7, sy8, sy9, sya, oneOf, syb, syc, Nat.reduceAdd, Nat.reduceMul, syd, sye, syf, syg, syh, reduceCtorEq, hng, decide_false, hcast5, hv5]
  refine call0 (zeros_spec hH5 (by simp; omega)) ?_
  rintro v w5 ⟨⟨c3, rfl⟩ | ⟨c3, rfl⟩, rfl⟩
  rotate_left
  · simp (maxSteps := 600000) (disch := omega) only [↓sy1, sy2, sy3, readOK, sy5, sy6, Nat.reduceEqDiff, ↓reduceIte, sy7, sy8, sy9, sya, oneOf, syb, syc, Nat.reduceAdd, Nat.reduceMul, syd, sye, syf, syg, syh, reduceCtorEq]
    exact hbad (hg1.trans hg3) (fun hc => c3 hc.2.2.2.1)
  simp (maxSteps := 600000) (disch := omega) only [↓sy1, sy2, sy3, readOK, sy5, sy6, Nat.reduceEqDiff, ↓reduceIte, sy7, sy8, sy9, sya, oneOf, syb, syc, Nat.reduceAdd, Nat.reduceMul, syd, sye, syf, syg, syh, reduceCtorEq]
  have hb5 := own_grow hb hg3
  have hg15 := hg1.trans hg3
  refine loop_rule (fun e w' => ∃ (i : Nat) (out : Value), i ≤ n ∧ e 51 = .int .i64 i ∧ e 50 = .int .i64 n ∧ e 4 = b ∧ e 0 = .pointer (some ⟨q, 0, none⟩) ∧ e 7 = .int .i64 (lastI (numsOf bb i)) ∧ e 8 = out ∧ goodN (D.first.length - size - 1) (numsOf bb i) ∧
      w'.ownsRow w.heap.size 3 1 out i (ints (zs (numsOf bb i))) ∧ w'.ownsRow w.heap.size 5 1 b 512 (bs bb) ∧ Grow w w') (fun e _ => n - (intOf (e 51)).toNat)
    ⟨0, .slice none 0 0, by omega, by simp [upd, updO, ev], by simp [upd, updO, ev], by simp [upd, updO, ev], by simp [upd, updO, ev], by simp [upd, updO, ev, lastI, numsOf], by simp [upd, updO, ev], goodN_nil _, World.ownsRow_nil w5 _ _ _, by rw [← hb512]; rw [← hb512] at hb5; exact hb5, hg15⟩ ?_
  rintro e w6 ⟨i, out, hi', e51, e50, e4, e0, e7, e8, hgd, hown, hb6, hg6⟩
  have hB6 := Has.own hb6
  by_cases hlt : i < n
  · obtain ⟨v7, hv7, hH7⟩ := hB6.slcFrom (m := 4 + 2 * i) (by rw [bs_length]; omega)
    rw [bs_drop] at hH7
    have hcast7 : (4 : Int) + 2 * (i : Int) = ((4 + 2 * i : Nat) : Int) := by omega
    have hsn := goodN_snoc (pages := D.first.length - size - 1) (l := numsOf bb i) (p := twoB bb (4 + 2 * i))
    rw [← numsOf_succ] at hsn
    have hup : goodN (D.first.length - size - 1) (numsOf bb n) → goodN (D.first.length - size - 1) (numsOf bb (i + 1)) := fun hg => by
      rw [← numsOf_take bb (show i + 1 ≤ n from hlt)]; exact goodN_take hg _
    have h7 := twoB_lt bb (4 + 2 * i)
    have hsucc := numsOf_succ bb i
    simp (maxSteps := 600000) (disch := omega) only [F50_L0, ↓sy1, sy2, sy3, readOK, sy5, sy6, Nat.reduceEqDiff, ↓reduceIte, sy7, sy8, sy9, sya, oneOf, syb, syc, Nat.reduceAdd, Nat.reduceMul, syd, sye, syf, syg, syh, reduceCtorEq, e51, e50, e4, e0, e7, e8, Int.ofNat_lt, hlt, decide_true, hcast7, hv7]
    refine call0 (two_spec hH7 (by rw [List.length_drop]; omega)) ?_
    rintro _ w7 ⟨rfl, hg7⟩
    rw [twoB_get (by rw [List.length_drop]; omega), twoB_zero]
    generalize twoB bb (4 + 2 * i) = p7 at h7 hsucc hsn ⊢
    by_cases hlast : (p7 : Int) ≤ lastI (numsOf bb i)
    · simp (maxSteps := 600000) (disch := omega) only [↓sy1, sy2, sy3, readOK, sy5, sy6, Nat.reduceEqDiff, ↓reduceIte, sy7, sy8, sy9, sya, oneOf, syb, syc, Nat.reduceAdd, Nat.reduceMul, syd, sye, syf, syg, syh, reduceCtorEq, e51, e50, e4, e0, e7, e8, hlast, decide_true]
      exact hbad (hg6.trans hg7) (fun hc => by have := (hsn.1 (hup hc.2.2.2.2)).2.1; omega)
    simp (maxSteps := 600000) (disch := omega) only [↓sy1, sy2, sy3, readOK, sy5, sy6, Nat.reduceEqDiff, ↓reduceIte, sy7, sy8, sy9, sya, oneOf, syb, syc, Nat.reduceAdd, Nat.reduceMul, syd, sye, syf, syg, syh, reduceCtorEq, e51, e50, e4, e0, e7, e8, hlast, decide_false]
    refine call0 (pages_spec (h.grow (hg6.trans hg7))) ?_
    rintro _ w8 ⟨rfl, hg8⟩
    by_cases hpp : ((D.first.length - size - 1 : Nat) : Int) ≤ (p7 : Int)
    · simp (maxSteps := 600000) (disch := omega) only [↓sy1, sy2, sy3, readOK, sy5, sy6, Nat.reduceEqDiff, ↓reduceIte, sy7, sy8, sy9, sya, oneOf, syb, syc, Nat.reduceAdd, Nat.reduceMul, syd, sye, syf, syg, syh, reduceCtorEq, e51, e50, e4, e0, e7, e8, hpp, decide_true]
      exact hbad ((hg6.trans hg7).trans hg8) (fun hc => by have := (hsn.1 (hup hc.2.2.2.2)).2.2; omega)
    simp (maxSteps := 600000) (disch := omega) only [↓sy1, sy2, sy3, readOK, sy5, sy6, Nat.reduceEqDiff, ↓reduceIte, sy7, sy8, sy9, sya, oneOf, syb, syc, Nat.reduceAdd, Nat.reduceMul, syd, sye, syf, syg, syh, reduceCtorEq, e51, e50, e4, e0, e7, e8, hpp, decide_false]
    have hown8 := own_grow hown (hg7.trans hg8)
    have hga : Grow w8 (w8.alloc (.cells #[.int .i64 (p7 : Int)] 3)) := (Keep.refl _ _).alloc _
    refine app_own elemI (by simp only [upd_at, Nat.reduceEqDiff, reduceIte, ev_tmp, ev_const, List.map_cons, List.map_nil, e8]) (by simp only [upd_at, Nat.reduceEqDiff, reduceIte, ev_tmp, ev_const, List.map_cons, List.map_nil]) (own_grow hown8 hga) Has.new1 (m := 1) rfl (by simp [isCell]) (by omega) (by omega) (by have := ((hg6.trans hg7).trans hg8).size; simp; omega) ?_
    intro out' w9 ho9 hg9
    simp (maxSteps := 600000) (disch := omega) only [↓sy1, sy2, sy3, readOK, sy5, sy6, Nat.reduceEqDiff, ↓reduceIte, sy7, sy8, sy9, sya, oneOf, syb, syc, Nat.reduceAdd, Nat.reduceMul, syd, sye, syf, syg, syh, reduceCtorEq, e51, e50, e4, e0]
    have hgw : Grow w w9 := (((hg6.trans hg7).trans hg8).trans hga).then (Keep.grown hg9) (fun bb hbb hs => by
      obtain ⟨hbl, _⟩ := World.ownsRow.lt hown8 bb hs.symm; omega)
    have hb8 := own_grow hb6 (hg7.trans hg8)
    have hk9 := (Keep.refl (fun bb => some bb = out.ownBlock) w8).trans (((Keep.refl _ _).alloc (.cells #[.int .i64 (p7 : Int)] 3)).trans (Keep.grown hg9))
    have hb9 := own_keep hb8 hk9 (fun bb hbb hs => own_ne hown8 hb8 (by decide) hs.symm hbb)
    refine R_out ⟨⟨i + 1, out', by omega, rfl, ?_, rfl, hsn.2 ⟨hgd, by omega, by omega⟩, ?_, hb9, hgw⟩, ?_⟩
    · rw [hsucc, lastI_snoc]
    · have hts : ints (zs (numsOf bb (i + 1))) = ints (zs (numsOf bb i)) ++ [.int .i64 (p7 : Int)] := by
        rw [hsucc, zs, List.map_append, ints, List.map_append]; rfl
      rw [hts]; exact ho9
    · simp only [intOf]; omega
  · have hie : i = n := by omega
    subst hie
    simp (maxSteps := 600000) (disch := omega) only [F50_L0, ↓sy1, sy2, sy3, readOK, sy5, sy6, Nat.reduceEqDiff, ↓reduceIte, sy7, sy8, sy9, sya, oneOf, syb, syc, Nat.reduceAdd, Nat.reduceMul, syd, sye, syf, syg, syh, reduceCtorEq, e51, e50, e4, e0, e7, e8, Int.ofNat_lt, hlt, decide_false]
    refine R_out ?_
    rw [headOf, if_neg hno, hn, if_pos ⟨c0, c1, c2, c3, hgd⟩]
    rw [← numsOf_length bb i] at hown
    exact ⟨⟨out, rfl, by simpa [numsOf_length] using hown⟩, hg6⟩
end Go.Proofs.Ytbnecclognibaaa

/- A log is opened over any disk. -/
namespace Go.Proofs.Ytbnecclognibaaa
open Go
set_option linter.unusedSimpArgs false
open Go.RowKit (intOf)
/-- The copies of a head's pages. -/
def pairsOf (D : Dsk) (ns : List Nat) : List (Nat × List UInt8) := ns.zipIdx.map fun p => (p.1, D.image.getD (1 + p.2) [])
theorem pairsOf_length (D : Dsk) (ns : List Nat) : (pairsOf D ns).length = ns.length := by simp [pairsOf]
theorem pairsOf_get (D : Dsk) (ns : List Nat) {i : Nat} (h : i < (pairsOf D ns).length) : (pairsOf D ns)[i] = (ns[i]'(by rw [pairsOf_length] at h; exact h), D.image.getD (1 + i) []) := by
  simp [pairsOf]
theorem pairsOf_fst (D : Dsk) (ns : List Nat) : (pairsOf D ns).map (·.1) = ns := by
  refine List.ext_getElem (by simp [pairsOf]) fun i h1 h2 => ?_
  rw [List.getElem_map, pairsOf_get]
/-- The disk of a log that is opened, and how many pages came; none: it is broken. -/
noncomputable def opened (size : Nat) (D : Dsk) : Option (Dsk × Nat) := (D.head size).map fun ns => (if ns = [] then D else homed size D (pairsOf D ns), ns.length)
theorem opened_none {size : Nat} {D : Dsk} (h : D.head size = none) : opened size D = none := by simp [opened, h]
theorem opened_nil {size : Nat} {D : Dsk} (h : D.head size = some []) : opened size D = some (D, 0) := by simp [opened, h]
theorem opened_some {size : Nat} {D : Dsk} {ns : List Nat} (h : D.head size = some ns) (hn : ns ≠ []) : opened size D = some (homed size D (pairsOf D ns), ns.length) := by simp [opened, h, hn]
theorem pairsOf_ok {size : Nat} {D : Dsk} {ns : List Nat} (hok : D.Ok) (h : D.head size = some ns) (h2 : size + 2 ≤ D.first.length) :
    (pairsOf D ns).length ≤ size ∧ (∀ p ∈ pairsOf D ns, p.2.length = 512 ∧ size + 1 + p.1 < D.first.length) ∧ ∀ i (h : i < (pairsOf D ns).length), D.image[1 + i]? = some (pairsOf D ns)[i].2 := by
  obtain ⟨⟨hr, hp⟩, hl⟩ := headOf_good h
  have hlen := pairsOf_length D ns
  have himg : ∀ i, i < ns.length → D.image[1 + i]? = some (D.image.getD (1 + i) []) := fun i hi => by
    have : 1 + i < D.image.length := by rw [D.image_length]; omega
    rw [List.getD_eq_getElem?_getD, List.getElem?_eq_getElem this]; rfl
  refine ⟨by omega, fun p hpm => ?_, fun i hi => ?_⟩
  · obtain ⟨i, hi, rfl⟩ := List.getElem_of_mem hpm
    rw [pairsOf_get]
    rw [hlen] at hi
    have h3 := hp ns[i] (List.getElem_mem hi)
    have h4 := List.mem_of_getElem? (himg i hi)
    exact ⟨hok.image _ h4, by simp only; omega⟩
  · rw [pairsOf_get]
    exact himg i (by omega)
/-- What Open answers. -/
def OpenRes (G : Gh) (κ' : Nat) (w : World) (size : Nat) (o : Option (Dsk × Nat)) (v : Value) (w' : World) : Prop := match o with
  | some (E, came) => ∃ q G', v = .tuple #[.pointer (some ⟨q, 0, none⟩), .int .i64 0] ∧ w.heap.size ≤ q ∧ LogAt G' κ' w' q size came E ∧ Ext (fun c => c = κ') G w G' w'
  | none => v = .tuple #[.pointer none, .int .i64 9] ∧ Grow w w'
set_option maxHeartbeats 1000000 in
theorem openg_spec {G : Gh} {κ : Nat} {w : World} {p size : Nat} {D : Dsk} (κ' : Nat) (hκ : κ' ≠ 0) (h : DiskAt G κ w p D) (h1 : 1 ≤ size) (h2 : size + 2 ≤ D.first.length) (ho : D.ops.length < 700000) :
    Calls Try.prog 26 #[.pointer (some ⟨p, 0, none⟩), .int .i64 size] w (Ret fun v w' => OpenRes G κ' w size (opened size D) v w') := by
  have hmost := h.ok.most
  have hok := h.ok
  apply enter26
  apply R_in
  simp (maxSteps := 600000) (disch := omega) only [F26, ↓sy1, sy2, sy3, readOK, sy5, sy6, Nat.reduceEqDiff, ↓reduceIte, sy7, sy8, sy9, sya, oneOf, syb, syc, Nat.reduceAdd, Nat.reduceMul, syd, sye, syf, syg, syh, reduceCtorEq, show ¬ ((size : Int) < 1) from by omega, decide_false]
  refine call0 (sectors_spec h) ?_
  rintro _ w0 ⟨rfl, rfl⟩
  simp (maxSteps := 600000) (disch := omega) only [↓sy1, sy2, sy3, readOK, sy5, sy6, Nat.reduceEqDiff, ↓reduceIte, sy7, sy8, sy9, sya, oneOf, syb, syc, Nat.reduceAdd, Nat.reduceMul, syd, sye, syf, syg, syh, reduceCtorEq, show ¬ ((D.first.length : Int) - 2 < (size : Int)) from by omega, decide_false]
  refine call0 (fork_spec κ' h) ?_
  rintro _ w1 ⟨p', G1, rfl, hp1, hd1, hx1⟩
  have hcp : isCell (.pointer (some ⟨p', 0, none⟩)) = true := rfl
  have hg2 : Grow w1 (w1.alloc (.cells #[.pointer (some ⟨p', 0, none⟩), .int .i64 size, .int .i64 0] 91)) := (Keep.refl _ _).alloc _
  have hb2 := heap_alloc_new w1 (.cells #[.pointer (some ⟨p', 0, none⟩), .int .i64 size, .int .i64 0] 91)
  generalize hw2 : w1.alloc (.cells #[.pointer (some ⟨p', 0, none⟩), .int .i64 size, .int .i64 0] 91) = w2 at hg2 hb2
  simp (maxSteps := 600000) (disch := omega) only [↓sy1, sy2, sy3, readOK, sy5, sy6, Nat.reduceEqDiff, ↓reduceIte, sy7, sy8, sy9, sya, oneOf, syb, syc, Nat.reduceAdd, Nat.reduceMul, syd, sye, syf, syg, syh, reduceCtorEq, oneF_cell hcp, fill_gen, fillF_log (a := .pointer none) (b := .int .i64 0) (c := .int .i64 0) hcp (show isCell (.int .i64 (size : Int)) = true from rfl), agg3_cells hcp (show isCell (.int .i64 (size : Int)) = true from rfl) (show isCell (.int .i64 0) = true from rfl), hw2]
  have hq1 : w0.heap.size ≤ w1.heap.size := hx1.size
  have hx2 : Ext0 G1 w1 (G1.new w1.heap.size) w2 := .newB hg2
  have hno : ∀ b, w1.heap.size ≤ b → (G1.new w1.heap.size).own b = 0 ∧ (G1.new w1.heap.size).fix b = 0 := fun b hb => ⟨Gh.new_own hb, by simp [Gh.upto, Nat.not_lt.2 hb]⟩
  have hd2 := hd1.ext hx2 id
  have hlog : LogAt (G1.new w1.heap.size) κ' w2 w1.heap.size size 0 D := ⟨hκ, h1, h2, (hno _ (Nat.le_refl _)).1, p', hb2, hd2⟩
  refine call0 (headg_spec hlog) ?_
  rintro v w3 ⟨hv, hg3⟩
  have hg13 := hg2.trans hg3
  have hx13 : Ext0 G w0 (G1.new w1.heap.size) w3 := hx1.trans (.newB hg13)
  cases hh : D.head size with
  | none =>
    rw [hh] at hv
    obtain rfl := hv
    rw [opened_none hh]
    simp (maxSteps := 600000) (disch := omega) only [↓sy1, sy2, sy3, readOK, sy5, sy6, Nat.reduceEqDiff, ↓reduceIte, sy7, sy8, sy9, sya, oneOf, syb, syc, Nat.reduceAdd, Nat.reduceMul, syd, sye, syf, syg, syh, reduceCtorEq]
    exact R_out ⟨rfl, hx13.growG⟩
  | some ns =>
    rw [hh] at hv
    obtain ⟨u, rfl, hu⟩ := hv
    obtain ⟨k1, k2, k3⟩ := pairsOf_ok hok hh h2
    rw [pairsOf_length] at k1
    have hlu : ∀ w3, lenF w3 0 u = some (.int .i64 ns.length) := fun w3 => by rw [(Has.own hu).lenI]; simp
    have hb3 := hg3.gheap hb2
    obtain ⟨w4, hst, hb4, hk4⟩ := cell_store hb3 (i := 2) (by simp) (u := .int .i64 ns.length) rfl
    have hb4' : w4.heap[w1.heap.size]? = some (.cells #[.pointer (some ⟨p', 0, none⟩), .int .i64 size, .int .i64 ns.length] 91 (0, 0)) := by simpa using hb4
    have hc4 : w4.cell? ⟨w1.heap.size, 2, none⟩ = some (.int .i64 ns.length) := by rw [cell_block hb4']; rfl
    have hg14 : Grow w1 w4 := hg13.then hk4 (fun b hb h => by omega)
    have hx4 : Ext (fun c => c = 0) (G1.new w1.heap.size) w3 (G1.new w1.heap.size) w4 := .on0 hk4 (hno _ (Nat.le_refl _)).1 (hno _ (Nat.le_refl _)).2
    have hd4 := (hd2.grow hg3).ext hx4 hκ
    have hlog4 : LogAt (G1.new w1.heap.size) κ' w4 w1.heap.size size ns.length D := ⟨hκ, h1, h2, (hno _ (Nat.le_refl _)).1, p', hb4', hd4⟩
    have hxw : Ext0 G w0 (G1.new w1.heap.size) w4 := hx1.trans (.newB hg14)
    by_cases hne : ns = []
    · subst hne
      rw [opened_nil hh]
      have hlu0 : ∀ w3, lenF w3 0 u = some (.int .i64 0) := hlu
      have hst0 : stF w3 (.pointer (some ⟨w1.heap.size, 2, none⟩)) (.int .i64 0) = some (undef, w4) := hst
      have hc40 : w4.cell? ⟨w1.heap.size, 2, none⟩ = some (.int .i64 0) := hc4
      simp (maxSteps := 600000) (disch := omega) only [↓sy1, sy2, sy3, readOK, sy5, sy6, Nat.reduceEqDiff, ↓reduceIte, sy7, sy8, sy9, sya, oneOf, syb, syc, Nat.reduceAdd, Nat.reduceMul, syd, sye, syf, syg, syh, reduceCtorEq, hlu0, hst0, hc40, show ¬ ((0 : Int) < 0) from by omega, decide_false]
      exact R_out ⟨w1.heap.size, G1.new w1.heap.size, rfl, hq1, hlog4, hxw.mono (fun _ h => h.elim)⟩
    · rw [opened_some hh hne]
      have hpos : 0 < ns.length := List.length_pos_iff.2 hne
      simp (maxSteps := 600000) (disch := omega) only [↓sy1, sy2, sy3, readOK, sy5, sy6, Nat.reduceEqDiff, ↓reduceIte, sy7, sy8, sy9, sya, oneOf, syb, syc, Nat.reduceAdd, Nat.reduceMul, syd, sye, syf, syg, syh, reduceCtorEq, hlu, hst, hc4, show ((0 : Int) < (ns.length : Int)) from by omega, decide_true]
      have hug : HasI w4 u (zs ns) := (Has.own hu).keep hk4 (fun b hb _ hbq => by
        have hbl := (World.ownsRow.lt hu b hb).1
        have := (Array.getElem?_eq_some_iff.1 hb2).1
        omega)
      have hheld : Held (G1.new w1.heap.size) κ' w4 u (ints (zs ((pairsOf D ns).map (·.1)))) := by
        rw [pairsOf_fst]
        refine ⟨hug, fun b hb _ => ?_⟩
        obtain ⟨hbb, hbl⟩ := World.ownsRow.lt hu b hb
        exact ⟨Nat.lt_of_lt_of_le hbl hk4.size, by rw [(hno b (Nat.le_trans hg2.size hbb)).1]; exact fun h => hκ h.symm⟩
      refine call0 (home_spec hlog4 hheld (by rw [pairsOf_length]; exact k1) k2 k3 (by rw [pairsOf_length]; omega)) ?_
      rintro _ w5 ⟨G5, hlog5, hx5⟩
      simp (maxSteps := 600000) (disch := omega) only [↓sy1, sy2, sy3, readOK, sy5, sy6, Nat.reduceEqDiff, ↓reduceIte, sy7, sy8, sy9, sya, oneOf, syb, syc, Nat.reduceAdd, Nat.reduceMul, syd, sye, syf, syg, syh, reduceCtorEq]
      exact R_out ⟨w1.heap.size, G5, rfl, hq1, hlog5, (hxw.mono (fun _ h => h.elim)).trans hx5⟩
end Go.Proofs.Ytbnecclognibaaa

/- What a crash leaves of a log's disk, in plain words: behind it all pages are as ahead of the group, or as behind it. -/
namespace Go.Proofs.Ytbnecclognibaaa
open Go
abbrev Img := List (List UInt8)
/-- What an image tells when a log is opened over it. -/
def Tells (size : Nat) (img P : Img) : Prop := ∃ ns, headOf (min size 100) (img.length - size - 1) (img.getD 0 []) = some ns ∧ P.length = img.length - size - 1 ∧
  (∀ i (h : i < ns.length), P[ns[i]]? = img[1 + i]?) ∧ ∀ s, s < P.length → s ∉ ns → P[s]? = img[size + 1 + s]?
/-- An image, some writes done. -/
def After (W : List DOp) (s img : Img) : Prop := img.length = s.length ∧ ∀ i : Nat, img[i]? = s[i]? ∨ ∃ b, DOp.wr i b ∈ W ∧ img[i]? = some b
theorem After.mono {W W' : List DOp} {s img : Img} (h : After W s img) (hs : ∀ o ∈ W, o ∈ W') : After W' s img :=
  ⟨h.1, fun i => (h.2 i).imp id (fun ⟨b, h1, h2⟩ => ⟨b, hs _ h1, h2⟩)⟩
theorem After.none {W : List DOp} {s img : Img} (h : After W s img) {i : Nat} (hi : ∀ b, DOp.wr i b ∉ W) : img[i]? = s[i]? := by
  rcases h.2 i with h | ⟨b, h1, _⟩
  · exact h
  · exact absurd h1 (hi b)
theorem image_after : ∀ (W : List DOp) (D : Dsk), After W D.image (adds D W).image
  | [], D => ⟨rfl, fun i => .inl rfl⟩
  | o :: W, D => by
    obtain ⟨h1, h2⟩ := image_after W (D.add o)
    rw [adds_cons]
    cases o with
    | fl =>
      rw [Dsk.image_fl] at h1 h2
      exact ⟨h1, fun i => (h2 i).imp id (fun ⟨b, h3, h4⟩ => ⟨b, by simp [h3], h4⟩)⟩
    | wr n b =>
      rw [Dsk.image_wr] at h1 h2
      refine ⟨by rw [h1, List.length_set], fun i => ?_⟩
      rcases h2 i with h3 | ⟨c, h3, h4⟩
      · by_cases hin : n = i
        · subst hin
          by_cases hl : n < D.image.length
          · exact .inr ⟨b, by simp, by rw [h3, List.getElem?_set_self hl]⟩
          · left; rw [h3, List.getElem?_eq_none (by rw [List.length_set]; omega), List.getElem?_eq_none (by omega)]
        · left; rw [h3, List.getElem?_set_ne hin]
      · exact .inr ⟨c, by simp [h3], h4⟩
theorem crash_any {D : Dsk} {ks : List Int} (hok : D.Ok) (hk : D.may ks) (i : Nat) : (D.crash (ks.map Int.toNat)).image[i]? = D.safe[i]? ∨ ∃ b ∈ D.wait i, (D.crash (ks.map Int.toNat)).image[i]? = some b := by
  rw [D.crash_image]
  by_cases hi : ∃ j, ∃ (h : j < D.waiting.length) (_ : j < ks.length), D.waiting[j] = i
  · obtain ⟨j, h1, h2, rfl⟩ := hi
    have hw := (Dsk.mem_waiting hok).1 (List.getElem_mem h1)
    have h3 := crashed_at D.wait D.waiting (ks.map Int.toNat) D.safe j h1 (by simpa using h2) D.waiting_nodup (by rw [D.safe_length]; exact hok.waits hw)
    obtain ⟨h4, h5⟩ := hk.2 j h2 h1
    rw [h3, List.getElem_map]
    by_cases h0 : ks[j].toNat = 0
    · rw [if_pos h0]; exact .inl rfl
    · rw [if_neg h0]
      have hlt : ks[j].toNat - 1 < (D.wait D.waiting[j]).length := by omega
      right
      exact ⟨_, List.getElem_mem hlt, by rw [List.getElem?_eq_getElem hlt]; rfl⟩
  · left
    exact crashed_other _ _ _ _ _ (fun j h1 h2 he => absurd ⟨j, h1, by simpa using h2, he⟩ hi)
def Writes (W : List DOp) : Prop := ∀ o ∈ W, ∃ n b, o = DOp.wr n b
theorem writes_st : ∀ (W : List DOp) (D : Dsk), Writes W → (adds D W).safe = D.safe ∧ ∀ i b, b ∈ (adds D W).wait i → b ∈ D.wait i ∨ DOp.wr i b ∈ W
  | [], D, _ => ⟨rfl, fun i b h => .inl h⟩
  | o :: W, D, hW => by
    obtain ⟨n, c, rfl⟩ := hW o (by simp)
    obtain ⟨h1, h2⟩ := writes_st W (D.add (.wr n c)) (fun o ho => hW o (by simp [ho]))
    rw [adds_cons]
    refine ⟨h1.trans (D.safe_wr n c), fun i b hb => ?_⟩
    rcases h2 i b hb with h | h
    · rw [D.wait_wr] at h
      by_cases hi : i = n
      · subst hi
        simp only [if_true, List.mem_append, List.mem_singleton] at h
        rcases h with h | rfl
        · exact .inl h
        · exact .inr (by simp)
      · simp only [if_neg hi] at h; exact .inl h
    · exact .inr (by simp [h])
theorem Flat.image {D : Dsk} (h : Flat D) : D.image = D.safe := by
  unfold Dsk.image; rw [h]
  exact flushed_none _
theorem flat_fl (D : Dsk) : Flat (D.add .fl) := D.wait_fl
theorem crash_after {D : Dsk} {W : List DOp} {ks : List Int} (hf : Flat D) (hW : Writes W) (hok : (adds D W).Ok) (hk : (adds D W).may ks) : After W D.image ((adds D W).crash (ks.map Int.toNat)).image := by
  obtain ⟨h1, h2⟩ := writes_st W D hW
  refine ⟨by rw [Dsk.crash_length, adds_first, D.image_length], fun i => ?_⟩
  rcases crash_any hok hk i with h | ⟨b, hb, h⟩
  · left; rw [h, h1, hf.image]
  · right
    rcases h2 i b hb with h3 | h3
    · rw [hf] at h3; simp at h3
    · exact ⟨b, h3, h⟩
theorem adds_eq (D : Dsk) (l : List DOp) : adds D l = ⟨D.first, D.ops ++ l⟩ := by
  have h1 := adds_first D l
  have h2 := adds_ops D l
  generalize adds D l = E at h1 h2
  cases E; simp only at h1 h2; subst h1; subst h2; rfl
theorem adds_cut (D : Dsk) (l : List DOp) (j : Nat) : (adds D l).cut (D.ops.length + j) = adds D (l.take j) := by
  rw [adds_eq, adds_eq, Dsk.cut]
  simp [List.take_append, List.take_of_length_le]
theorem adds_cut_le (D : Dsk) (l : List DOp) {k : Nat} (h : k ≤ D.ops.length) : (adds D l).cut k = D.cut k := by
  rw [adds_eq, Dsk.cut, Dsk.cut]
  simp [List.take_append, Nat.sub_eq_zero_of_le h]
/-- Where a list of operations is cut. -/
theorem take_fl (A rest : List DOp) (j : Nat) : (j ≤ A.length ∧ (A ++ .fl :: rest).take j = A.take j) ∨ ∃ i, j = A.length + 1 + i ∧ (A ++ .fl :: rest).take j = A ++ .fl :: rest.take i := by
  by_cases h : j ≤ A.length
  · exact .inl ⟨h, by rw [List.take_append_of_le_length h]⟩
  · right
    refine ⟨j - A.length - 1, by omega, ?_⟩
    rw [List.take_append, List.take_of_length_le (by omega), show j - A.length = (j - A.length - 1) + 1 from by omega, List.take_succ_cons]
    simp
theorem tells_get {size : Nat} {img : Img} {i : Nat} (h : i < img.length) : img[i]? = some (img.getD i []) := by
  rw [List.getD_eq_getElem?_getD, List.getElem?_eq_getElem h]; rfl
theorem getD_of {img img' : Img} {i : Nat} (h : img[i]? = img'[i]?) : img.getD i [] = img'.getD i [] := by
  rw [List.getD_eq_getElem?_getD, List.getD_eq_getElem?_getD, h]
section home
variable {size : Nat} {D : Dsk} {ns : List Nat} {P : Img}
theorem home_writes (ps : List (Nat × List UInt8)) : Writes (homeOps size ps) := fun o ho => by
  obtain ⟨p, _, rfl⟩ := List.mem_map.1 ho; exact ⟨_, _, rfl⟩
theorem home_mem {ps : List (Nat × List UInt8)} {i : Nat} {b : List UInt8} (h : DOp.wr i b ∈ homeOps size ps) : ∃ n ∈ ps.map (·.1), i = size + 1 + n := by
  obtain ⟨p, hp, he⟩ := List.mem_map.1 h
  cases he; exact ⟨p.1, List.mem_map.2 ⟨p, hp, rfl⟩, rfl⟩
/-- What is told, of a head that names pages. -/
def Told (size : Nat) (img : Img) (ns : List Nat) (P : Img) : Prop := headOf (min size 100) (img.length - size - 1) (img.getD 0 []) = some ns ∧ P.length = img.length - size - 1 ∧
  (∀ i (h : i < ns.length), P[ns[i]]? = img[1 + i]?) ∧ ∀ s, s < P.length → s ∉ ns → P[s]? = img[size + 1 + s]?
theorem Told.tells {img : Img} (h : Told size img ns P) : Tells size img P := ⟨ns, h⟩
theorem Told.len {img : Img} (h : Told size img ns P) : ns.length ≤ size ∧ ns.length ≤ 100 := by
  have := (headOf_good h.1).2; omega
theorem told_after {img : Img} (h : Told size D.image ns P) (ha : After (homeOps size (pairsOf D ns)) D.image img) : Told size img ns P := by
  have hl := h.len
  obtain ⟨h1, h2, h3, h4⟩ := h
  have h0 : img[0]? = D.image[0]? := ha.none (fun b hb => by
    obtain ⟨n, _, hn⟩ := home_mem hb; omega)
  refine ⟨by rw [ha.1, getD_of h0]; exact h1, by rw [ha.1]; exact h2, fun i hi => ?_, fun s hs hsn => ?_⟩
  · rw [h3 i hi]
    exact (ha.none (fun b hb => by obtain ⟨n, _, hn⟩ := home_mem hb; omega)).symm
  · rw [h4 s hs hsn]
    exact (ha.none (fun b hb => by
      obtain ⟨n, hm, hn⟩ := home_mem hb
      rw [pairsOf_fst] at hm
      exact hsn (by rw [show s = n from by omega]; exact hm))).symm
theorem home_full (h : Told size D.image ns P) (hsz : size + 2 ≤ D.first.length) {s : Nat} (hs : s < P.length) : (adds D (homeOps size (pairsOf D ns))).image[size + 1 + s]? = P[s]? := by
  have hl := h.len
  obtain ⟨h1, h2, h3, h4⟩ := h
  obtain ⟨hr, hp⟩ := (headOf_good h1).1
  rw [D.image_length] at h2 hp
  by_cases hm : s ∈ ns
  · obtain ⟨i, hi, rfl⟩ := List.getElem_of_mem hm
    have hq : (ns[i], D.image.getD (1 + i) []) ∈ pairsOf D ns := by
      rw [← pairsOf_get D ns (i := i) (by rw [pairsOf_length]; exact hi)]; exact List.getElem_mem _
    rw [image_home size _ D (by rw [pairsOf_fst]; exact nodup_lt hr) (fun p hp' => ?_) _ hq, h3 i hi]
    · exact (tells_get (size := 0) (by rw [D.image_length]; omega)).symm
    · have : p.1 ∈ ns := by rw [← pairsOf_fst D ns]; exact List.mem_map.2 ⟨p, hp', rfl⟩
      have := hp _ this; omega
  · rw [image_home_other size _ _ D (fun p hp' he => hm ?_)]
    · exact (h4 s hs hm).symm
    · have : p.1 ∈ ns := by rw [← pairsOf_fst D ns]; exact List.mem_map.2 ⟨p, hp', rfl⟩
      rw [show s = p.1 from by omega]; exact this
theorem headB_nil {cap pages : Nat} (hc : cap ≤ 100) (hp : pages ≤ 65536) : headOf cap pages (headB []) = some [] := headOf_headB hc (Nat.zero_le _) hp (goodN_nil _)
theorem tells_empty {img : Img} (h : Told size D.image ns P) (hok : D.Ok) (hsz : size + 2 ≤ D.first.length) (ha : After [.wr 0 (headB [])] (adds D (homeOps size (pairsOf D ns))).image img) : Tells size img P := by
  have him := image_after (homeOps size (pairsOf D ns)) D
  rcases ha.2 0 with h0 | ⟨b, hb, h0⟩
  · have heq : img = (adds D (homeOps size (pairsOf D ns))).image := List.ext_getElem? fun i => by
      by_cases hi : i = 0
      · subst hi; exact h0
      · exact ha.none (fun b hb => by simp only [List.mem_singleton, DOp.wr.injEq] at hb; exact hi hb.1)
    rw [heq]
    exact (told_after h him).tells
  · simp only [List.mem_singleton, DOp.wr.injEq, true_and] at hb
    subst hb
    have hlen : img.length = D.first.length := by rw [ha.1, Dsk.image_length, adds_first]
    have hP := h.2.1
    rw [D.image_length] at hP
    have hmost := hok.most
    refine ⟨[], by rw [List.getD_eq_getElem?_getD, h0]; exact headB_nil (by omega) (by omega), by rw [hlen]; exact hP, fun i hi => by simp at hi, fun s hs _ => ?_⟩
    rw [← home_full h hsz hs]
    exact (ha.none (fun b hb => by simp only [List.mem_singleton, DOp.wr.injEq] at hb; omega)).symm
/-- What brings pages home. -/
def homeT (size : Nat) (ps : List (Nat × List UInt8)) : List DOp := homeOps size ps ++ [.fl, .wr 0 (headB []), .fl]
theorem homed_adds (size : Nat) (D : Dsk) (ps : List (Nat × List UInt8)) : homed size D ps = adds D (homeT size ps) := by
  rw [homeT, adds_append]; rfl
theorem After.eq {s img : Img} (h : After [] s img) : img = s := List.ext_getElem? fun i => h.none (fun b hb => by simp at hb)
theorem crash_home (hf : Flat D) (h : Told size D.image ns P) (hok : D.Ok) (hsz : size + 2 ≤ D.first.length) (j : Nat) (ks : List Int) (hokj : (adds D ((homeT size (pairsOf D ns)).take j)).Ok) (hk : (adds D ((homeT size (pairsOf D ns)).take j)).may ks) :
    Tells size ((adds D ((homeT size (pairsOf D ns)).take j)).crash (ks.map Int.toNat)).image P := by
  have hw1 : Writes [.wr 0 (headB [])] := fun o ho => ⟨_, _, List.mem_singleton.1 ho⟩
  rcases take_fl (homeOps size (pairsOf D ns)) [.wr 0 (headB []), .fl] j with ⟨hj, ht⟩ | ⟨i, hj, ht⟩
  · rw [show homeT size (pairsOf D ns) = homeOps size (pairsOf D ns) ++ .fl :: [.wr 0 (headB []), .fl] from rfl] at hokj hk ⊢
    rw [ht] at hokj hk ⊢
    exact (told_after h ((crash_after hf (fun o ho => home_writes _ o (List.mem_of_mem_take ho)) hokj hk).mono (fun o ho => List.mem_of_mem_take ho))).tells
  · rw [show homeT size (pairsOf D ns) = homeOps size (pairsOf D ns) ++ .fl :: [.wr 0 (headB []), .fl] from rfl] at hokj hk ⊢
    rw [ht, adds_append, adds_cons] at hokj hk ⊢
    have hf1 : Flat ((adds D (homeOps size (pairsOf D ns))).add .fl) := flat_fl _
    have hi1 : ((adds D (homeOps size (pairsOf D ns))).add .fl).image = (adds D (homeOps size (pairsOf D ns))).image := Dsk.image_fl _
    match i, hokj, hk with
    | 0, hokj, hk =>
      have := crash_after (W := []) hf1 (fun o ho => by simp at ho) hokj hk
      have he := this.eq
      rw [List.take_zero, he, hi1]
      exact (told_after h (image_after _ D)).tells
    | 1, hokj, hk =>
      have := crash_after (W := [.wr 0 (headB [])]) hf1 hw1 hokj hk
      rw [hi1] at this
      exact tells_empty h hok hsz this
    | i + 2, hokj, hk =>
      have ht2 : ([.wr 0 (headB []), .fl] : List DOp).take (i + 2) = [.wr 0 (headB []), .fl] := List.take_of_length_le (by simp)
      rw [ht2] at hokj hk ⊢
      rw [adds_cons, adds_cons, adds_nil] at hokj hk ⊢
      have := crash_after (W := []) (flat_fl (((adds D (homeOps size (pairsOf D ns))).add .fl).add (.wr 0 (headB [])))) (fun o ho => by simp at ho) hokj hk
      have he := this.eq
      rw [adds_nil] at he
      rw [he, Dsk.image_fl]
      refine tells_empty h hok hsz ?_
      have := image_after [.wr 0 (headB [])] ((adds D (homeOps size (pairsOf D ns))).add .fl)
      rw [hi1] at this
      exact this
end home
theorem copy_writes : ∀ (ps : List (Nat × List UInt8)) (k : Nat), Writes (copyOps k ps)
  | [], _ => fun o ho => by simp [copyOps] at ho
  | p :: ps, k => fun o ho => by
    rw [copyOps] at ho
    rcases List.mem_cons.1 ho with rfl | ho
    · exact ⟨_, _, rfl⟩
    · exact copy_writes ps (k + 1) o ho
theorem copy_mem : ∀ (ps : List (Nat × List UInt8)) (k : Nat) {i : Nat} {b : List UInt8}, DOp.wr i b ∈ copyOps k ps → 1 + k ≤ i ∧ i < 1 + k + ps.length
  | [], _, _, _, h => by simp [copyOps] at h
  | p :: ps, k, i, b, h => by
    rw [copyOps] at h
    rcases List.mem_cons.1 h with h | h
    · cases h; simp
    · have := copy_mem ps (k + 1) h; simp; omega
/-- The pages. -/
def pg (size : Nat) (D : Dsk) : Img := D.image.drop (size + 1)
theorem pg_length (size : Nat) (D : Dsk) : (pg size D).length = D.first.length - size - 1 := by simp [pg, D.image_length]; omega
theorem pg_get (size : Nat) (D : Dsk) (s : Nat) : (pg size D)[s]? = D.image[size + 1 + s]? := by rw [pg, List.getElem?_drop]
theorem calm_head {D : Dsk} (h : Calm D) {cap pages : Nat} (hc : cap ≤ 100) (hp : pages ≤ 65536) : headOf cap pages (D.image.getD 0 []) = some [] := by
  rw [List.getD_eq_getElem?_getD]
  rcases h with h | h <;> rw [h]
  · exact headOf_zsec _ _
  · exact headB_nil hc hp
theorem calm_tells {size : Nat} {D : Dsk} {img : Img} (h : Calm D) (hok : D.Ok) (hl : img.length = D.image.length) (h0 : img[0]? = D.image[0]?) (hp : ∀ s, img[size + 1 + s]? = D.image[size + 1 + s]?) : Tells size img (pg size D) := by
  have hmost := hok.most
  have hil := D.image_length
  refine ⟨[], by rw [getD_of h0]; exact calm_head h (by omega) (by omega), by rw [pg_length, hl, hil], fun i hi => by simp at hi, fun s _ _ => by rw [pg_get, hp]⟩
section group
variable {size : Nat} {D : Dsk} {ps : List (Nat × List UInt8)}
/-- A group that may be. -/
structure GroupOk (size : Nat) (D : Dsk) (ps : List (Nat × List UInt8)) : Prop where
  rise : (ps.map (·.1)).Pairwise (· < ·)
  lt : ∀ p ∈ ps, p.1 < D.first.length - size - 1
  len : ps.length ≤ min size 100
  b512 : ∀ p ∈ ps, p.2.length = 512
def headT (ps : List (Nat × List UInt8)) : List DOp := copyOps 0 ps ++ [.fl, .wr 0 (headB (ps.map (·.1))), .fl]
theorem groupOps_parts (size : Nat) (ps : List (Nat × List UInt8)) : groupOps size ps = headT ps ++ homeT size ps := by simp [groupOps, headT, homeT]
theorem told_head {img : Img} (hg : GroupOk size D ps) (hok : D.Ok) (hsz : size + 2 ≤ D.first.length) (hl : img.length = D.first.length) (h0 : img[0]? = some (headB (ps.map (·.1)))) (hi : ∀ i, i ≠ 0 → img[i]? = (adds D (copyOps 0 ps)).image[i]?) : Told size img (ps.map (·.1)) (pg size (grouped size D ps)) := by
  have hmost := hok.most
  have hlen := hg.len
  refine ⟨?_, by rw [pg_length, grouped_first, hl], fun i hi' => ?_, fun s hs hsn => ?_⟩
  · rw [List.getD_eq_getElem?_getD, h0]
    exact headOf_headB (by omega) (by simpa using hlen) (by omega) ⟨hg.rise, fun n hn => by obtain ⟨p, hp, rfl⟩ := List.mem_map.1 hn; rw [hl]; exact hg.lt p hp⟩
  · have hi2 : i < ps.length := by simpa using hi'
    rw [hi (1 + i) (by omega), List.getElem_map, pg_get]
    have h1 := grouped_page (size := size) (D := D) (ps := ps) (nodup_lt hg.rise) (fun p hp => by have := hg.lt p hp; omega) (List.getElem_mem hi2)
    have h2 := image_copied ps 0 D i hi2 (by omega)
    rw [show 1 + 0 + i = 1 + i from by omega] at h2
    rw [h1, h2]
  · rw [pg_get, hi (size + 1 + s) (by omega), grouped_other (by omega) (by omega) (fun p hp he => hsn (List.mem_map.2 ⟨p, hp, by omega⟩)), image_copy _ ps 0 D (by omega)]
theorem crash_group (hg : GroupOk size D ps) (hf : Flat D) (hc : Calm D) (hok : D.Ok) (hsz : size + 2 ≤ D.first.length) (j : Nat) (ks : List Int) (hokj : (adds D ((groupOps size ps).take j)).Ok) (hk : (adds D ((groupOps size ps).take j)).may ks) :
    (Tells size ((adds D ((groupOps size ps).take j)).crash (ks.map Int.toNat)).image (pg size D) ∧ j < (groupOps size ps).length) ∨ (Tells size ((adds D ((groupOps size ps).take j)).crash (ks.map Int.toNat)).image (pg size (grouped size D ps)) ∧ j ≠ 0) := by
  have hgl := groupOps_length size ps
  have hlen := hg.len
  have hw1 : Writes [.wr 0 (headB (ps.map (·.1)))] := fun o ho => ⟨_, _, List.mem_singleton.1 ho⟩
  have hform : groupOps size ps = copyOps 0 ps ++ .fl :: (.wr 0 (headB (ps.map (·.1))) :: .fl :: homeT size ps) := by simp [groupOps, homeT]
  have hahead : ∀ {img : Img}, After (copyOps 0 ps) D.image img → Tells size img (pg size D) := fun {img} ha =>
    calm_tells hc hok ha.1 (ha.none (fun b hb => by have := copy_mem _ _ hb; omega)) (fun s => ha.none (fun b hb => by have := copy_mem _ _ hb; omega))
  have hf1 : Flat ((adds D (copyOps 0 ps)).add .fl) := flat_fl _
  have hi1 : ((adds D (copyOps 0 ps)).add .fl).image = (adds D (copyOps 0 ps)).image := Dsk.image_fl _
  have hlen1 : (adds D (copyOps 0 ps)).image.length = D.first.length := by rw [Dsk.image_length, adds_first]
  rw [hgl]
  rw [hform] at hokj hk ⊢
  rcases take_fl (copyOps 0 ps) (.wr 0 (headB (ps.map (·.1))) :: .fl :: homeT size ps) j with ⟨hj, ht⟩ | ⟨i, hj, ht⟩
  · rw [copyOps_length] at hj
    rw [ht] at hokj hk ⊢
    exact .inl ⟨hahead ((crash_after hf (fun o ho => copy_writes ps 0 o (List.mem_of_mem_take ho)) hokj hk).mono (fun o ho => List.mem_of_mem_take ho)), by omega⟩
  · rw [copyOps_length] at hj
    rw [ht, adds_append, adds_cons] at hokj hk ⊢
    match i, hj, hokj, hk with
    | 0, hj, hokj, hk =>
      have he := (crash_after (W := []) hf1 (fun o ho => by simp at ho) hokj hk).eq
      left
      rw [List.take_zero, he, hi1]
      exact ⟨hahead (image_after _ D), by omega⟩
    | 1, hj, hokj, hk =>
      have ht1 : (DOp.wr 0 (headB (ps.map (·.1))) :: DOp.fl :: homeT size ps).take 1 = [.wr 0 (headB (ps.map (·.1)))] := rfl
      rw [ht1] at hokj hk ⊢
      have ha := crash_after (D := (adds D (copyOps 0 ps)).add .fl) (W := [.wr 0 (headB (ps.map (·.1)))]) (ks := ks) hf1 hw1 (by exact hokj) (by exact hk)
      rw [hi1] at ha
      have hno : ∀ i, i ≠ 0 → _ := fun i hi => ha.none (i := i) (fun b hb => by simp only [List.mem_singleton, DOp.wr.injEq] at hb; exact hi hb.1)
      rcases ha.2 0 with h0 | ⟨b, hb, h0⟩
      · left
        refine ⟨?_, by omega⟩
        have heq : ((adds ((adds D (copyOps 0 ps)).add .fl) [.wr 0 (headB (ps.map (·.1)))]).crash (ks.map Int.toNat)).image = (adds D (copyOps 0 ps)).image := List.ext_getElem? fun i => by
          by_cases hi : i = 0
          · subst hi; exact h0
          · exact hno i hi
        rw [heq]
        exact hahead (image_after _ D)
      · right
        simp only [List.mem_singleton, DOp.wr.injEq, true_and] at hb
        subst hb
        exact ⟨(told_head hg hok hsz (by rw [ha.1]; exact hlen1) h0 hno).tells, by omega⟩
    | i + 2, hj, hokj, hk =>
      right
      refine ⟨?_, by omega⟩
      rw [List.take_succ_cons, List.take_succ_cons, adds_cons, adds_cons] at hokj hk ⊢
      have hf2 : Flat ((((adds D (copyOps 0 ps)).add .fl).add (.wr 0 (headB (ps.map (·.1))))).add .fl) := flat_fl _
      have hi2 : ((((adds D (copyOps 0 ps)).add .fl).add (.wr 0 (headB (ps.map (·.1))))).add .fl).image = (adds D (copyOps 0 ps)).image.set 0 (headB (ps.map (·.1))) := by rw [Dsk.image_fl, Dsk.image_wr, hi1]
      have hfst : ((((adds D (copyOps 0 ps)).add .fl).add (.wr 0 (headB (ps.map (·.1))))).add .fl).first = D.first := adds_first D (copyOps 0 ps)
      have hok2 : ((((adds D (copyOps 0 ps)).add .fl).add (.wr 0 (headB (ps.map (·.1))))).add .fl).Ok := by
        refine ⟨fun b hb => hok.rows b (by rw [← hfst]; exact hb), fun n b hm => ?_, by rw [hfst]; exact hok.some, by rw [hfst]; exact hok.most⟩
        have := hokj.ops n b (by rw [adds_ops]; exact List.mem_append_left _ hm)
        rw [adds_first] at this; exact this
      have htold : Told size ((((adds D (copyOps 0 ps)).add .fl).add (.wr 0 (headB (ps.map (·.1))))).add .fl).image (ps.map (·.1)) (pg size (grouped size D ps)) := by
        rw [hi2]
        exact told_head hg hok hsz (by rw [List.length_set]; exact hlen1) (List.getElem?_set_self (by rw [hlen1]; omega)) (fun i hi => List.getElem?_set_ne (fun h => hi h.symm))
      have hpairs : pairsOf ((((adds D (copyOps 0 ps)).add .fl).add (.wr 0 (headB (ps.map (·.1))))).add .fl) (ps.map (·.1)) = ps := by
        refine List.ext_getElem (by rw [pairsOf_length, List.length_map]) fun i h1 h2 => ?_
        rw [pairsOf_get, hi2, List.getD_eq_getElem?_getD, List.getElem?_set_ne (by omega)]
        have := image_copied ps 0 D i h2 (by omega)
        rw [show 1 + 0 + i = 1 + i from by omega] at this
        rw [this, List.getElem_map]; rfl
      have hsz2 : size + 2 ≤ ((((adds D (copyOps 0 ps)).add .fl).add (.wr 0 (headB (ps.map (·.1))))).add .fl).first.length := by rw [hfst]; exact hsz
      have := crash_home hf2 htold hok2 hsz2 i ks (by rw [hpairs]; exact hokj) (by rw [hpairs]; exact hk)
      rw [hpairs] at this
      exact this
end group
/-- Behind an opening. -/
theorem tells_opened {size : Nat} {D : Dsk} {P : Img} (hok : D.Ok) (hsz : size + 2 ≤ D.first.length) (h : Tells size D.image P) :
    ∃ ns E, D.head size = some ns ∧ Told size D.image ns P ∧ opened size D = some (E, ns.length) ∧ E = (if ns = [] then D else adds D (homeT size (pairsOf D ns))) ∧ lpages size E = P.take 100 := by
  obtain ⟨ns, ht⟩ := h
  have hP := ht.2.1
  have hh : D.head size = some ns := by
    unfold Dsk.head; rw [← D.image_length]; exact ht.1
  by_cases hn : ns = []
  · subst hn
    refine ⟨[], D, hh, ht, opened_nil hh, by rw [if_pos rfl], ?_⟩
    rw [lpages]
    congr 1
    refine List.ext_getElem? fun s => ?_
    rw [List.getElem?_drop]
    by_cases hs : s < P.length
    · exact (ht.2.2.2 s hs (by simp)).symm
    · rw [List.getElem?_eq_none (by omega), List.getElem?_eq_none (by omega)]
  · refine ⟨ns, _, hh, ht, opened_some hh hn, by rw [if_neg hn, homed_adds], ?_⟩
    rw [lpages]
    congr 1
    have himg : (homed size D (pairsOf D ns)).image = (adds D (homeOps size (pairsOf D ns))).image.set 0 (headB []) := by rw [homed, Dsk.image_fl, Dsk.image_wr, Dsk.image_fl]
    rw [himg]
    refine List.ext_getElem? fun s => ?_
    rw [List.getElem?_drop, List.getElem?_set_ne (by omega)]
    by_cases hs : s < P.length
    · exact home_full ht hsz hs
    · rw [List.getElem?_eq_none (by rw [Dsk.image_length, adds_first]; rw [D.image_length] at hP; omega), List.getElem?_eq_none (by omega)]
end Go.Proofs.Ytbnecclognibaaa

/- What a crash keeps; a disk that is cut, and crashed. -/
namespace Go.Proofs.Ytbnecclognibaaa
open Go
set_option linter.unusedSimpArgs false
open Go.RowKit (intOf)
/-- A row of rows in nobody's blocks. -/
def Zero (G : Gh) (w : World) (v : Value) (xs : List Value) : Prop := Has 1 w v xs ∧ ∀ b, v.ownBlock = some b → xs ≠ [] → b < w.heap.size ∧ G.own b = 0
theorem Zero.ext {K : Nat → Prop} {G G' : Gh} {w w' : World} {v : Value} {xs : List Value} (h : Zero G w v xs) (hx : Ext K G w G' w') (h0 : ¬ K 0) : Zero G' w' v xs := by
  refine ⟨h.1.keep hx.keep (fun b hb hne => by rw [(h.2 b hb hne).2]; exact h0), fun b hb hne => ?_⟩
  obtain ⟨h1, h2⟩ := h.2 b hb hne
  exact ⟨Nat.lt_of_lt_of_le h1 hx.size, by rw [hx.own b h1]; exact h2⟩
theorem Zero.own {B k : Nat} {t : TypeId} {w w' : World} {G : Gh} {v : Value} {xs : List Value} (h : w'.ownsRow B t 1 v k xs) (hB : w.heap.size ≤ B) : Zero (G.new w.heap.size) w' v xs :=
  ⟨Has.own h, fun b hb _ => ⟨(World.ownsRow.lt h b hb).2, Gh.new_own (Nat.le_trans hB (World.ownsRow.lt h b hb).1)⟩⟩
def ZRows (G : Gh) (w : World) : List Value → List (List UInt8) → Prop
  | [], [] => True
  | v :: vs, l :: ls => Zero G w v (bs l) ∧ ZRows G w vs ls
  | _, _ => False
theorem ZRows.ext {K : Nat → Prop} {G G' : Gh} {w w' : World} (hx : Ext K G w G' w') (h0 : ¬ K 0) : ∀ {vs : List Value} {ls : List (List UInt8)}, ZRows G w vs ls → ZRows G' w' vs ls
  | [], [], _ => trivial
  | _ :: _, _ :: _, ⟨h1, h2⟩ => ⟨h1.ext hx h0, ZRows.ext hx h0 h2⟩
theorem ZRows.rows {G : Gh} {w : World} : ∀ {vs : List Value} {ls : List (List UInt8)}, ZRows G w vs ls → Rows w vs ls
  | [], [], _ => trivial
  | _ :: _, _ :: _, ⟨h1, h2⟩ => ⟨h1.1, h2.rows⟩
theorem ZRows.own {B : Nat} {t : TypeId} {w w' : World} {G : Gh} (hB : w.heap.size ≤ B) : ∀ {vs : List Value} {ls : List (List UInt8)}, RowsO B t w' vs ls → ZRows (G.new w.heap.size) w' vs ls
  | [], [], _ => trivial
  | _ :: _, _ :: _, ⟨h1, h2⟩ => ⟨.own h1 hB, ZRows.own hB h2⟩
def ZeroR (G : Gh) (w : World) (v : Value) (ls : List (List UInt8)) : Prop := ∃ vs, Zero G w v vs ∧ ZRows G w vs ls
theorem ZeroR.ext {K : Nat → Prop} {G G' : Gh} {w w' : World} {v : Value} {ls : List (List UInt8)} (h : ZeroR G w v ls) (hx : Ext K G w G' w') (h0 : ¬ K 0) : ZeroR G' w' v ls := let ⟨vs, h1, h2⟩ := h; ⟨vs, h1.ext hx h0, h2.ext hx h0⟩
theorem ZeroR.has {G : Gh} {w : World} {v : Value} {ls : List (List UInt8)} (h : ZeroR G w v ls) : HasR w v ls := let ⟨vs, h1, h2⟩ := h; ⟨vs, h1.1, h2.rows⟩
theorem FreshR.zero {B : Nat} {tr t : TypeId} {G : Gh} {w w' : World} {v : Value} {ls : List (List UInt8)} (h : FreshR B tr t w' v ls) (hB : w.heap.size ≤ B) : ZeroR (G.new w.heap.size) w' v ls := let ⟨vs, h1, h2⟩ := h; ⟨vs, .own h1 hB, .own hB h2⟩
end Go.Proofs.Ytbnecclognibaaa

/- A map is made: the walk. -/
namespace Go.Proofs.Ytbnecclognibaaa
open Go
set_option linter.unusedSimpArgs false
open Go.RowKit (intOf)
/-- Rows of 512 bytes, each in a block of its own. -/
structure DRows (B : Nat) (w : World) (vs : List Value) (ls : List (List UInt8)) : Prop where
  len : vs.length = ls.length
  row : ∀ (i : Nat) (v : Value) (l : List UInt8), vs[i]? = some v → ls[i]? = some l → w.ownsRow B 5 1 v 512 (bs l)
  apart : ∀ (i j : Nat) (v u : Value), vs[i]? = some v → vs[j]? = some u → i ≠ j → ∀ b, v.ownBlock = some b → u.ownBlock ≠ some b
theorem DRows.keep {S : Nat → Prop} {B : Nat} {w w' : World} {vs : List Value} {ls : List (List UInt8)} (h : DRows B w vs ls) (hk : Keep S w w') (hs : ∀ v ∈ vs, ∀ b, v.ownBlock = some b → ¬ S b) : DRows B w' vs ls :=
  ⟨h.len, fun i v l hv hl => own_keep (h.row i v l hv hl) hk (fun b hb => hs v (List.mem_of_getElem? hv) b hb), h.apart⟩
theorem DRows.grow {B : Nat} {w w' : World} {vs : List Value} {ls : List (List UInt8)} (h : DRows B w vs ls) (hg : Grow w w') : DRows B w' vs ls := h.keep hg (fun _ _ _ _ => id)
theorem DRows.lt {B : Nat} {w : World} {vs : List Value} {ls : List (List UInt8)} (h : DRows B w vs ls) {v : Value} (hv : v ∈ vs) {b : Nat} (hb : v.ownBlock = some b) : B ≤ b ∧ b < w.heap.size := by
  obtain ⟨i, hi, rfl⟩ := List.getElem_of_mem hv
  have h1 := h.row i vs[i] (ls[i]'(by rw [← h.len]; exact hi)) (List.getElem?_eq_getElem hi) (List.getElem?_eq_getElem _)
  exact World.ownsRow.lt h1 b hb
theorem DRows.snoc {B : Nat} {w w' : World} {vs : List Value} {ls : List (List UInt8)} {u : Value} {l : List UInt8} (h : DRows B w vs ls) (hg : Grow w w') (hB : B ≤ w.heap.size) (hu : w'.ownsRow w.heap.size 5 1 u 512 (bs l)) : DRows B w' (vs ++ [u]) (ls ++ [l]) := by
  have hl := h.len
  have hcase : ∀ {i : Nat} {v : Value}, (vs ++ [u])[i]? = some v → vs[i]? = some v ∨ (i = vs.length ∧ v = u) := fun {i v} hv => by
    rcases Nat.lt_trichotomy i vs.length with h1 | h1 | h1
    · rw [List.getElem?_append_left h1] at hv; exact .inl hv
    · subst h1; simp at hv; exact .inr ⟨rfl, hv.symm⟩
    · rw [List.getElem?_eq_none (by simp; omega)] at hv; cases hv
  refine ⟨by simp [hl], fun i v x hv hx => ?_, fun i j v z hv hz hij b hb hc => ?_⟩
  · rcases hcase hv with h1 | ⟨rfl, rfl⟩
    · have hi := (List.getElem?_eq_some_iff.1 h1).1
      rw [List.getElem?_append_left (by omega)] at hx
      exact own_grow (h.row i v x h1 hx) hg
    · rw [hl] at hx; simp at hx; subst hx; exact own_base hu hB
  · rcases hcase hv with h1 | ⟨rfl, rfl⟩
    · rcases hcase hz with h2 | ⟨rfl, rfl⟩
      · exact h.apart i j v z h1 h2 hij b hb hc
      · have h3 := (h.lt (List.mem_of_getElem? h1) hb).2
        have h4 := (World.ownsRow.lt hu b hc).1
        omega
    · rcases hcase hz with h2 | ⟨rfl, rfl⟩
      · have h3 := (h.lt (List.mem_of_getElem? h2) hc).2
        have h4 := (World.ownsRow.lt hu b hb).1
        omega
      · exact hij rfl
/-- A byte of a row is written. -/
theorem DRows.store {B : Nat} {w : World} {vs : List Value} {ls : List (List UInt8)} (h : DRows B w vs ls) {i j : Nat} {l : List UInt8} {v : Value} (hv : vs[i]? = some v) (hl : ls[i]? = some l) (hj : j < 512) (hll : l.length = 512) (x : UInt8) :
    ∃ a w', iaF 1 v (.int .i64 j) = some (.pointer (some a)) ∧ w.cell? a = some (.int .u8 ((l.getD j 0).toNat : Int)) ∧ stF w (.pointer (some a)) (.int .u8 (x.toNat : Int)) = some (undef, w') ∧ DRows B w' vs (ls.set i (l.set j x)) ∧ Keep (fun b => v.ownBlock = some b) w w' := by
  have h1 := h.row i v l hv hl
  obtain ⟨a, w', ha, hst, ho, hk, _⟩ := own_store h1 hj (u := .int .u8 (x.toNat : Int)) rfl
  obtain ⟨a', ha', hc, _⟩ := (Has.own h1).getB (i := j) (by omega)
  rw [ha] at ha'
  cases ha'
  refine ⟨a, w', ha, by rw [hc, List.getD_eq_getElem?_getD, List.getElem?_eq_getElem (by omega)]; rfl, hst, ⟨by rw [List.length_set]; exact h.len, fun i' v' l' hv' hl' => ?_, h.apart⟩, hk⟩
  by_cases hii : i' = i
  · subst hii
    rw [hv] at hv'; cases hv'
    have hil := (List.getElem?_eq_some_iff.1 hl).1
    rw [List.getElem?_set_self hil] at hl'; cases hl'
    have : (bs l).set j (.int .u8 (x.toNat : Int)) = bs (l.set j x) := by simp [bs, List.map_set]
    rw [this] at ho; exact ho
  · rw [List.getElem?_set_ne (Ne.symm hii)] at hl'
    exact own_keep (h.row i' v' l' hv' hl') hk (fun b hb hh => h.apart i i' v v' hv hv' (Ne.symm hii) b hh hb)
theorem own_one (w : World) (B : Nat) (hB : B ≤ w.heap.size) (el : TypeId) (z : Value) : (w.alloc (.cells #[z] el)).ownsRow B el 1 (.slice (some ⟨w.heap.size, 0, none⟩) 1 1) 1 [z] :=
  ⟨by simp, .inr ⟨w.heap.size, 1, _, rfl, hB, heap_alloc_new w _, Nat.le_refl _, by unfold maxLen; omega, by simp, by simp⟩⟩
theorem firstc_spec {w : World} {m k : Nat} (hc : w.cell? ⟨m, 1, none⟩ = some (.int .i64 k)) (hk : k ≤ 100000) : Calls Try.prog 18 #[.pointer (some ⟨m, 0, none⟩)] w (Ret fun v w' => v = .int .i64 ((3 + k / 8 : Nat) : Int) ∧ w' = w) := by
  apply enter18
  apply R_in
  simp (maxSteps := 1000000) (disch := omega) only [↓sy1, sy2, sy3, readOK, sy5, sy6, Nat.reduceEqDiff, ↓reduceIte, sy7, sy8, sy9, sya, oneOf, syb, syc, Nat.reduceAdd, Nat.reduceMul, syd, sye, syf, syg, syh, reduceCtorEq, F18, hc, tdiv8]
  exact R_out (congrArg (Value.int .i64) (by omega))
/-- The pages as they are made, behind the bits of the first n pages. -/
def made0 (N k : Nat) : List (List UInt8) := superB N k :: List.replicate (2 + k / 8) zsec
def madeN (N k n : Nat) : List (List UInt8) := ((made0 N k).set 1 oneRow).set 2 (bitRow n)
theorem made0_length (N k : Nat) : (made0 N k).length = 3 + k / 8 := by simp [made0]; omega
theorem madeN_length (N k n : Nat) : (madeN N k n).length = 3 + k / 8 := by rw [madeN, List.length_set, List.length_set, made0_length]
theorem madeN_zero {N k : Nat} : madeN N k 0 = (made0 N k).set 1 oneRow := by
  unfold madeN bitRow
  refine List.ext_getElem? fun i => ?_
  rw [List.getElem?_set]
  split
  · rename_i h; subst h
    rw [List.length_set, made0_length, if_pos (by omega), List.getElem?_set_ne (by omega), made0]
    rw [show (2 : Nat) = 1 + 1 from rfl, List.getElem?_cons_succ, List.getElem?_replicate, if_pos (by omega)]
  · rfl
theorem madeN_row {N k n : Nat} : (madeN N k n)[2]? = some (bitRow n) := List.getElem?_set_self (by rw [List.length_set, made0_length]; omega)
theorem madeN_step {N k n : Nat} (b : List UInt8) (h : b = bitRow (n + 1)) : (madeN N k n).set 2 b = madeN N k (n + 1) := by
  rw [madeN, List.set_set, h]; rfl
theorem madeN_len512 {N k n i : Nat} {l : List UInt8} (h : (madeN N k n)[i]? = some l) : l.length = 512 := by
  have h1 := List.mem_of_getElem? h
  unfold madeN made0 at h1
  rcases List.mem_or_eq_of_mem_set h1 with h1 | rfl
  · rcases List.mem_or_eq_of_mem_set h1 with h1 | rfl
    · rcases List.mem_cons.1 h1 with rfl | h1
      · exact superB_length _ _
      · rw [(List.mem_replicate.1 h1).2]; exact zsec_length
    · exact oneRow_length
  · exact bitRow_length _
theorem madeN_get (N k n : Nat) : (madeN N k n).getD 0 [] = superB N k ∧ (madeN N k n).getD 1 [] = oneRow ∧ (madeN N k n).getD 2 [] = bitRow n := by
  refine ⟨?_, ?_, ?_⟩
  · rw [List.getD_eq_getElem?_getD, madeN, List.getElem?_set_ne (by omega), List.getElem?_set_ne (by omega)]; rfl
  · rw [List.getD_eq_getElem?_getD, madeN, List.getElem?_set_ne (by omega), List.getElem?_set_self (by rw [made0_length]; omega)]; rfl
  · rw [List.getD_eq_getElem?_getD, madeN_row]; rfl
section
variable {G : Gh} {κ μ p lq came : Nat} {w : World} {c : Csh}
theorem make_bad (h : CacheS G κ μ w p lq came c) {k : Int} (hk : ¬ mayA c.N k) :
    Calls Try.prog 8 #[.pointer (some ⟨p, 0, none⟩), .int .i64 k] w (Ret fun v w' => v = .tuple #[.pointer none, .int .i64 2] ∧ Grow w w') := by
  apply enter8
  apply R_in
  simp (maxSteps := 1000000) (disch := omega) only [↓sy1, sy2, sy3, readOK, sy5, sy6, Nat.reduceEqDiff, ↓reduceIte, sy7, sy8, sy9, sya, oneOf, syb, syc, Nat.reduceAdd, Nat.reduceMul, syd, sye, syf, syg, syh, reduceCtorEq, F8]
  refine call0 (cslog_spec h) ?_
  rintro _ w1 ⟨rfl, rfl⟩
  simp (maxSteps := 1000000) (disch := omega) only [↓sy1, sy2, sy3, readOK, sy5, sy6, Nat.reduceEqDiff, ↓reduceIte, sy7, sy8, sy9, sya, oneOf, syb, syc, Nat.reduceAdd, Nat.reduceMul, syd, sye, syf, syg, syh, reduceCtorEq]
  obtain ⟨row, hca⟩ := id h
  refine call0 (pages_spec hca.2.log) ?_
  rintro _ w2 ⟨rfl, hg2⟩
  rw [show ((c.D.first.length - c.size - 1 : Nat) : Int) = (c.N : Int) from rfl]
  simp (maxSteps := 1000000) (disch := omega) only [↓sy1, sy2, sy3, readOK, sy5, sy6, Nat.reduceEqDiff, ↓reduceIte, sy7, sy8, sy9, sya, oneOf, syb, syc, Nat.reduceAdd, Nat.reduceMul, syd, sye, syf, syg, syh, reduceCtorEq]
  refine call0 (may_spec (a := c.N) (b := k)) ?_
  rintro _ w3 ⟨rfl, rfl⟩
  simp (maxSteps := 1000000) (disch := omega) only [↓sy1, sy2, sy3, readOK, sy5, sy6, Nat.reduceEqDiff, ↓reduceIte, sy7, sy8, sy9, sya, oneOf, syb, syc, Nat.reduceAdd, Nat.reduceMul, syd, sye, syf, syg, syh, reduceCtorEq, decide_eq_false hk]
  exact R_out hg2
set_option maxHeartbeats 8000000 in
theorem make_spec (h : CacheS G κ μ w p lq came c) (hn6 : κ ≠ 6 ∧ μ ≠ 6) {k : Nat} (hk : mayA c.N k) (hroom : c.dirty.length + (3 + k / 8) ≤ c.cap) :
    Calls Try.prog 8 #[.pointer (some ⟨p, 0, none⟩), .int .i64 k] w (Ret fun v w' => ∃ m G', v = .tuple #[.pointer (some ⟨m, 0, none⟩), .int .i64 0] ∧ w.heap.size ≤ m ∧
      MapAt G' κ μ w' m p lq came (wrN c (madeN c.N k (3 + k / 8)) (3 + k / 8)) (upto1 (3 + k / 8) c.N) (upto1 1 k) ∧ Ext (fun x => x = μ) G w G' w') := by
  have hk' := hk
  unfold mayA at hk'
  have hne := h.ne
  have hF := made0_length c.N k
  apply enter8
  apply R_in
  simp (maxSteps := 1000000) (disch := omega) only [↓sy1, sy2, sy3, readOK, sy5, sy6, Nat.reduceEqDiff, ↓reduceIte, sy7, sy8, sy9, sya, oneOf, syb, syc, Nat.reduceAdd, Nat.reduceMul, syd, sye, syf, syg, syh, reduceCtorEq, F8]
  refine call0 (cslog_spec h) ?_
  rintro _ w1 ⟨rfl, rfl⟩
  simp (maxSteps := 1000000) (disch := omega) only [↓sy1, sy2, sy3, readOK, sy5, sy6, Nat.reduceEqDiff, ↓reduceIte, sy7, sy8, sy9, sya, oneOf, syb, syc, Nat.reduceAdd, Nat.reduceMul, syd, sye, syf, syg, syh, reduceCtorEq]
  obtain ⟨row, hca⟩ := id h
  refine call0 (pages_spec hca.2.log) ?_
  rintro _ w2 ⟨rfl, hg2⟩
  rw [show ((c.D.first.length - c.size - 1 : Nat) : Int) = (c.N : Int) from rfl]
  clear hca
  simp (maxSteps := 1000000) (disch := omega) only [↓sy1, sy2, sy3, readOK, sy5, sy6, Nat.reduceEqDiff, ↓reduceIte, sy7, sy8, sy9, sya, oneOf, syb, syc, Nat.reduceAdd, Nat.reduceMul, syd, sye, syf, syg, syh, reduceCtorEq]
  refine call0 (may_spec (a := c.N) (b := k)) ?_
  rintro _ w2 ⟨rfl, rfl⟩
  simp (maxSteps := 1000000) (disch := omega) only [↓sy1, sy2, sy3, readOK, sy5, sy6, Nat.reduceEqDiff, ↓reduceIte, sy7, sy8, sy9, sya, oneOf, syb, syc, Nat.reduceAdd, Nat.reduceMul, syd, sye, syf, syg, syh, reduceCtorEq, decide_eq_true hk, fill_gen, fillF_2 (u := .pointer (some ⟨p, 0, none⟩)) (v := .int .i64 (k : Int)) rfl rfl, agg2_cells (x := .pointer (some ⟨p, 0, none⟩)) (y := .int .i64 (k : Int)) rfl rfl]
  have hg3 : Grow w2 (w2.alloc (.cells #[.pointer (some ⟨p, 0, none⟩), .int .i64 (k : Int)] 61)) := (Keep.refl _ _).alloc _
  have hb3 := heap_alloc_new w2 (.cells #[.pointer (some ⟨p, 0, none⟩), .int .i64 (k : Int)] 61)
  have hmB : w1.heap.size ≤ w2.heap.size := hg2.size
  generalize w2.alloc (.cells #[.pointer (some ⟨p, 0, none⟩), .int .i64 (k : Int)] 61) = w3 at hg3 hb3 ⊢
  generalize w2.heap.size = m at hb3 hmB ⊢
  have hmc : ∀ {w'}, Grow w3 w' → w'.cell? ⟨m, 1, none⟩ = some (.int .i64 k) := fun hg => by rw [cell_block (hg.gheap hb3)]; rfl
  have hg03 : Grow w1 w3 := hg2.trans hg3
  refine call0 (super_spec (a := c.N) (b := k) (by omega) (by omega)) ?_
  rintro sv w4 ⟨hsv, hg4⟩
  have hsc := (Has.own hsv).isCell
  simp (maxSteps := 1000000) (disch := omega) only [↓sy1, sy2, sy3, readOK, sy5, sy6, Nat.reduceEqDiff, ↓reduceIte, sy7, sy8, sy9, sya, oneOf, syb, syc, Nat.reduceAdd, Nat.reduceMul, syd, sye, syf, syg, syh, reduceCtorEq, fill_one, oneF_cell hsc]
  have hg5 : Grow w4 (w4.alloc (.cells #[sv] 29)) := (Keep.refl _ _).alloc _
  have ho5 := own_one w4 w4.heap.size (Nat.le_refl _) 29 sv
  generalize w4.alloc (.cells #[sv] 29) = w5 at hg5 ho5 ⊢
  generalize (Value.slice (some ⟨w4.heap.size, 0, none⟩) 1 1) = lv at ho5 ⊢
  have hg35 : Grow w3 w5 := hg4.trans hg5
  have hD5 : DRows w3.heap.size w5 [sv] [superB c.N k] := by
    refine ⟨rfl, fun i v l hv hl => ?_, fun i j v u hv hu hij => ?_⟩
    · match i, hv, hl with
      | 0, hv, hl => simp at hv hl; subst hv; subst hl; exact own_grow hsv hg5
      | i + 1, hv, _ => simp at hv
    · match i, j, hv, hu with
      | 0, 0, _, _ => exact absurd rfl hij
      | 0, j + 1, _, hu => simp at hu
      | i + 1, _, hv, _ => simp at hv
  refine call0 (firstc_spec (hmc hg35) (by omega)) ?_
  rintro _ w6 ⟨rfl, rfl⟩
  have hsub : ((3 + k / 8 : Nat) : Int) - 1 = ((2 + k / 8 : Nat) : Int) := by omega
  simp (maxSteps := 1000000) (disch := omega) only [↓sy1, sy2, sy3, readOK, sy5, sy6, Nat.reduceEqDiff, ↓reduceIte, sy7, sy8, sy9, sya, oneOf, syb, syc, Nat.reduceAdd, Nat.reduceMul, syd, sye, syf, syg, syh, reduceCtorEq, hsub]
  refine loop_rule (fun e w' => ∃ (i : Nat) (vs : List Value), i ≤ 2 + k / 8 ∧ e 32 = .int .i64 i ∧ e 31 = .int .i64 ((2 + k / 8 : Nat) : Int) ∧ e 0 = .pointer (some ⟨p, 0, none⟩) ∧ e 1 = .int .i64 k ∧ e 7 = .pointer (some ⟨m, 0, none⟩) ∧ vs.length = i + 1 ∧ w'.ownsRow w3.heap.size 29 1 (e 8) (i + 1) vs ∧ DRows w3.heap.size w' vs (superB c.N k :: List.replicate i zsec) ∧ Grow w3 w') (fun e _ => 2 + k / 8 - (intOf (e 32)).toNat)
    ⟨0, [sv], by omega, by simp [upd, updO, ev], by simp [upd, updO, ev], by simp [upd, updO, ev], by simp [upd, updO, ev], by simp [upd, updO, ev], rfl, by simpa [upd, updO, ev] using own_base ho5 (by have := hg4.size; omega), hD5, hg35⟩ ?_
  clear hD5 ho5 hsv hsc
  rintro e w7 ⟨i, vs, hi, e32, e31, e0, e1, e7, hvl, ho7, hD7, hg7⟩
  by_cases hlt : i < 2 + k / 8
  · simp (maxSteps := 1000000) (disch := omega) only [↓sy1, sy2, sy3, readOK, sy5, sy6, Nat.reduceEqDiff, ↓reduceIte, sy7, sy8, sy9, sya, oneOf, syb, syc, Nat.reduceAdd, Nat.reduceMul, syd, sye, syf, syg, syh, reduceCtorEq, F8_L0, e32, e31, e0, e1, e7, Int.ofNat_lt, hlt, decide_true]
    refine mkz_rule (fun zv w8 hg8 hz => ?_)
    have hzc := (Has.own hz).isCell
    simp (maxSteps := 1000000) (disch := omega) only [↓sy1, sy2, sy3, readOK, sy5, sy6, Nat.reduceEqDiff, ↓reduceIte, sy7, sy8, sy9, sya, oneOf, syb, syc, Nat.reduceAdd, Nat.reduceMul, syd, sye, syf, syg, syh, reduceCtorEq, fill_one, oneF_cell hzc]
    have hga : Grow w8 (w8.alloc (.cells #[zv] 29)) := (Keep.refl _ _).alloc _
    have hD8 := hD7.snoc hg8 hg7.size hz
    refine app_own elemR (by simp only [upd_at, Nat.reduceEqDiff, reduceIte, ev_tmp, ev_const, List.map_cons, List.map_nil]) (by simp only [upd_at, Nat.reduceEqDiff, reduceIte, ev_tmp, ev_const, List.map_cons, List.map_nil]) (own_grow (own_grow ho7 hg8) hga) Has.new1 (m := 1) rfl (by simpa using hzc) (by omega) (by omega) (by have := hga.size; have := hg8.size; have := hg7.size; omega) ?_
    intro lv' w9 ho9 hg9
    simp (maxSteps := 1000000) (disch := omega) only [↓sy1, sy2, sy3, readOK, sy5, sy6, Nat.reduceEqDiff, ↓reduceIte, sy7, sy8, sy9, sya, oneOf, syb, syc, Nat.reduceAdd, Nat.reduceMul, syd, sye, syf, syg, syh, reduceCtorEq, e32, e31, e0, e1, e7]
    have hkk := Keep.grown hg9
    refine R_out ⟨⟨i + 1, vs ++ [zv], by omega, rfl, by simp [hvl], ho9, ?_, ((hg7.trans hg8).trans hga).then hkk (fun b hb hh => ?_)⟩, by simp only [intOf]; omega⟩
    · rw [show (superB c.N k :: List.replicate (i + 1) zsec) = (superB c.N k :: List.replicate i zsec) ++ [zsec] from by rw [List.replicate_succ']; rfl]
      refine (hD8.grow hga).keep hkk (fun v hv b hb hh => ?_)
      obtain ⟨j, hj, rfl⟩ := List.getElem_of_mem hv
      have hrow := (hD8.grow hga).row j _ (((superB c.N k :: List.replicate i zsec) ++ [zsec])[j]'(by rw [← hD8.len]; exact hj)) (List.getElem?_eq_getElem hj) (List.getElem?_eq_getElem _)
      exact own_ne hrow (own_grow (own_grow ho7 hg8) hga) (by decide) hb hh.symm
    · have := (World.ownsRow.lt ho7 b hh.symm).1; omega
  have hie : i = 2 + k / 8 := by omega
  subst hie
  rw [show 2 + k / 8 + 1 = 3 + k / 8 from by omega] at ho7 hvl
  have hD7 : DRows w3.heap.size w7 vs (made0 c.N k) := hD7
  obtain ⟨lv1, e8⟩ : ∃ lv1, e 8 = lv1 := ⟨_, rfl⟩
  rw [e8] at ho7
  obtain ⟨a1, ha1, hc1, _⟩ := (Has.own ho7).idx (i := 1) (by omega)
  have ha1 : iaF 1 lv1 (.int .i64 1) = some (.pointer (some a1)) := ha1
  obtain ⟨a2, w8, ha2, hc2, hst, hD8, hk8⟩ := hD7.store (i := 1) (j := 0) (l := zsec) (List.getElem?_eq_getElem (by omega)) (by rw [made0, show (1 : Nat) = 0 + 1 from rfl, List.getElem?_cons_succ, List.getElem?_replicate, if_pos (by omega)]) (by omega) zsec_length 1
  have ha2 : iaF 1 (vs[1]'(by omega)) (.int .i64 0) = some (.pointer (some a2)) := ha2
  have hst : stF w7 (.pointer (some a2)) (.int .u8 1) = some (undef, w8) := hst
  have hD8 : DRows w3.heap.size w8 vs (madeN c.N k 0) := by rw [madeN_zero]; exact hD8
  have hvB : ∀ v ∈ vs, ∀ b, v.ownBlock = some b → w3.heap.size ≤ b := fun v hv b hb => (hD8.lt hv hb).1
  have hne8 : ∀ v ∈ vs, ∀ b, lv1.ownBlock = some b → v.ownBlock ≠ some b := fun v hv b hb hh => by
    obtain ⟨j, hj, rfl⟩ := List.getElem_of_mem hv
    have hrow := hD7.row j _ ((made0 c.N k)[j]'(by rw [← hD7.len]; exact hj)) (List.getElem?_eq_getElem hj) (List.getElem?_eq_getElem _)
    exact own_ne hrow ho7 (by decide) hh hb
  have ho8 := own_keep ho7 hk8 (fun b hb hh => hne8 _ (List.getElem_mem _) b hb hh)
  have hg8 : Grow w3 w8 := hg7.then hk8 (fun b hb hh => by have := hvB _ (List.getElem_mem _) b hh; omega)
  simp (maxSteps := 1000000) (disch := omega) only [↓sy1, sy2, sy3, readOK, sy5, sy6, Nat.reduceEqDiff, ↓reduceIte, sy7, sy8, sy9, sya, oneOf, syb, syc, Nat.reduceAdd, Nat.reduceMul, syd, sye, syf, syg, syh, reduceCtorEq, F8_L0, e32, e31, e0, e1, e7, e8, Int.ofNat_lt, Nat.lt_irrefl, decide_false, ha1, hc1, ha2, hst]
  refine call0 (firstc_spec (hmc hg8) (by omega)) ?_
  rintro _ w8 ⟨rfl, rfl⟩
  simp (maxSteps := 1000000) (disch := omega) only [↓sy1, sy2, sy3, readOK, sy5, sy6, Nat.reduceEqDiff, ↓reduceIte, sy7, sy8, sy9, sya, oneOf, syb, syc, Nat.reduceAdd, Nat.reduceMul, syd, sye, syf, syg, syh, reduceCtorEq]
  clear hD7 ho7 hc1 hst hk8 hg7 e32 e31 hc2
  refine loop_rule (fun e w' => ∃ i : Nat, i ≤ 3 + k / 8 ∧ e 45 = .int .i64 i ∧ e 44 = .int .i64 ((3 + k / 8 : Nat) : Int) ∧ e 0 = .pointer (some ⟨p, 0, none⟩) ∧ e 7 = .pointer (some ⟨m, 0, none⟩) ∧ e 8 = lv1 ∧ w'.ownsRow w3.heap.size 29 1 lv1 (3 + k / 8) vs ∧ DRows w3.heap.size w' vs (madeN c.N k i) ∧ Grow w3 w') (fun e _ => 3 + k / 8 - (intOf (e 45)).toNat)
    ⟨0, by omega, by simp [upd, updO, ev], by simp [upd, updO, ev], by simp [upd, updO, ev, e0], by simp [upd, updO, ev, e7], by simp [upd, updO, ev, e8], ho8, hD8, hg8⟩ ?_
  clear e0 e1 e7 e8 ho8 hD8 hg8
  rintro e w9 ⟨i, hi, e45, e44, e0, e7, e8, ho9, hD9, hg9⟩
  by_cases hlt : i < 3 + k / 8
  · simp (maxSteps := 1000000) (disch := omega) only [↓sy1, sy2, sy3, readOK, sy5, sy6, Nat.reduceEqDiff, ↓reduceIte, sy7, sy8, sy9, sya, oneOf, syb, syc, Nat.reduceAdd, Nat.reduceMul, syd, sye, syf, syg, syh, reduceCtorEq, F8_L1, e45, e44, e0, e7, e8, Int.ofNat_lt, hlt, decide_true]
    refine draw8_0 (fun _ => False) ?_
    have hgd : Grow w9 w9.drew := (Keep.refl _ _).drew
    have ho10 := own_grow ho9 hgd
    have hD10 := hD9.grow hgd
    have hg10 := hg9.trans hgd
    generalize w9.drew = w10 at hgd ho10 hD10 hg10 ⊢
    obtain ⟨a1, ha1, hc1, _⟩ := (Has.own ho10).idx (i := 2) (by omega)
    have ha1 : iaF 1 lv1 (.int .i64 2) = some (.pointer (some a1)) := ha1
    have hbl := bitRow_length i
    obtain ⟨z, hz1, hz2⟩ := shl_or (x := (bitRow i).getD (i / 8) 0) (i := i % 8) (by omega)
    obtain ⟨a2, w11, ha2, hc2, hst, hD11, hk11⟩ := hD10.store (i := 2) (j := i / 8) (l := bitRow i) (List.getElem?_eq_getElem (by omega)) madeN_row (by omega) hbl (UInt8.ofNat (((bitRow i).getD (i / 8) 0).toNat ||| 2 ^ (i % 8)))
    rw [madeN_step ((bitRow i).set (i / 8) (UInt8.ofNat (((bitRow i).getD (i / 8) 0).toNat ||| 2 ^ (i % 8)))) rfl] at hD11
    simp (maxSteps := 1000000) (disch := omega) only [↓sy1, sy2, sy3, readOK, sy5, sy6, Nat.reduceEqDiff, ↓reduceIte, sy7, sy8, sy9, sya, oneOf, syb, syc, Nat.reduceAdd, Nat.reduceMul, syd, sye, syf, syg, syh, reduceCtorEq, PL8_0, e45, e44, e0, e7, e8, ha1, hc1, tdiv8, tmod8, ha2, hc2, hz1, hz2, hst]
    have ho11 := own_keep ho10 hk11 (fun b hb hh => hne8 _ (List.getElem_mem _) b hb hh)
    exact R_out ⟨⟨i + 1, by omega, rfl, ho11, hD11, hg10.then hk11 (fun b hb hh => by have := hvB _ (List.getElem_mem _) b hh; omega)⟩, by simp only [intOf]; omega⟩
  have hie : i = 3 + k / 8 := by omega
  subst hie
  simp (maxSteps := 1000000) (disch := omega) only [↓sy1, sy2, sy3, readOK, sy5, sy6, Nat.reduceEqDiff, ↓reduceIte, sy7, sy8, sy9, sya, oneOf, syb, syc, Nat.reduceAdd, Nat.reduceMul, syd, sye, syf, syg, syh, reduceCtorEq, F8_L1, e45, e44, e0, e7, e8, Int.ofNat_lt, Nat.lt_irrefl, decide_false]
  refine call0 (firstc_spec (hmc hg9) (by omega)) ?_
  rintro _ w9 ⟨rfl, rfl⟩
  simp (maxSteps := 1000000) (disch := omega) only [↓sy1, sy2, sy3, readOK, sy5, sy6, Nat.reduceEqDiff, ↓reduceIte, sy7, sy8, sy9, sya, oneOf, syb, syc, Nat.reduceAdd, Nat.reduceMul, syd, sye, syf, syg, syh, reduceCtorEq]
  refine call0 (numbers_spec (n := 3 + k / 8) (by omega)) ?_
  rintro nv w10 ⟨hnv, hg10⟩
  have hg310 := hg9.trans hg10
  have hg010 := hg03.trans hg310
  have hx10 : Ext0 G w1 (G.upto w1.heap.size (fun _ => 0) (fun _ => maxLen)) w10 := .upto hg010 _ _
  have hown : ∀ b, w1.heap.size ≤ b → (G.upto w1.heap.size (fun _ => 0) (fun _ => maxLen)).own b = 0 := fun b hb => (upto_own hb).1
  have hM10 : MapC (G.upto w1.heap.size (fun _ => 0) (fun _ => maxLen)) κ μ w10 m p lq came c k := ⟨h.ext hx10 id id id, hg310.gheap hb3, hown m hmB, hn6, by omega, by omega⟩
  have hD10 := hD9.grow hg10
  have ho10 := own_grow ho9 hg10
  have hlv : Zero (G.upto w1.heap.size (fun _ => 0) (fun _ => maxLen)) w10 lv1 vs := ⟨Has.own ho10, fun b hb _ => ⟨(World.ownsRow.lt ho10 b hb).2, hown b (by have := (World.ownsRow.lt ho10 b hb).1; have := hg03.size; omega)⟩⟩
  have hrows : ∀ (i : Nat) (v : Value) (l : List UInt8), vs[i]? = some v → (madeN c.N k (3 + k / 8))[i]? = some l → Zero (G.upto w1.heap.size (fun _ => 0) (fun _ => maxLen)) w10 v (bs l) := fun i v l hv hl => by
    have hrow := hD10.row i v l hv hl
    exact ⟨Has.own hrow, fun b hb _ => ⟨(World.ownsRow.lt hrow b hb).2, hown b (by have := (World.ownsRow.lt hrow b hb).1; have := hg03.size; omega)⟩⟩
  generalize (G.upto w1.heap.size (fun _ => 0) (fun _ => maxLen)) = G10 at hx10 hM10 hlv hrows
  simp (maxSteps := 1000000) (disch := omega) only [↓sy1, sy2, sy3, readOK, sy5, sy6, Nat.reduceEqDiff, ↓reduceIte, sy7, sy8, sy9, sya, oneOf, syb, syc, Nat.reduceAdd, Nat.reduceMul, syd, sye, syf, syg, syh, reduceCtorEq]
  refine call0 (fits_spec hM10 (l := zs (List.range (3 + k / 8))) hnv (by simp [zs]; omega)) ?_
  rintro _ w11 ⟨rfl, hg11⟩
  have hlenl : ∀ w', lenF w' 0 lv1 = some (.int .i64 ((3 + k / 8 : Nat) : Int)) := fun w' => by rw [hlv.1.len, hvl]
  simp (maxSteps := 1000000) (disch := omega) only [↓sy1, sy2, sy3, readOK, sy5, sy6, Nat.reduceEqDiff, ↓reduceIte, sy7, sy8, sy9, sya, oneOf, syb, syc, Nat.reduceAdd, Nat.reduceMul, syd, sye, syf, syg, syh, reduceCtorEq, e0, e7, e8, fits_room (c := c) (l := zs (List.range (3 + k / 8))) (by simp [zs]; omega), hlenl]
  have hx0 : Ext0 G10 w10 G10 w11 := .grow hg11
  refine loop_rule (fun e w' => ∃ (i : Nat) (G' : Gh), i ≤ 3 + k / 8 ∧ e 69 = .int .i64 i ∧ e 68 = .int .i64 ((3 + k / 8 : Nat) : Int) ∧ e 67 = lv1 ∧ e 0 = .pointer (some ⟨p, 0, none⟩) ∧ e 7 = .pointer (some ⟨m, 0, none⟩) ∧
      MapC G' κ μ w' m p lq came (wrN c (madeN c.N k (3 + k / 8)) i) k ∧ Zero G' w' lv1 vs ∧ (∀ (i : Nat) (v : Value) (l : List UInt8), vs[i]? = some v → (madeN c.N k (3 + k / 8))[i]? = some l → Zero G' w' v (bs l)) ∧ Ext (fun x => x = μ) G w1 G' w') (fun e _ => 3 + k / 8 - (intOf (e 69)).toNat)
    ⟨0, G10, by omega, by simp [upd, updO, ev], by simp [upd, updO, ev], by simp [upd, updO, ev, e8], by simp [upd, updO, ev, e0], by simp [upd, updO, ev, e7], hM10.grow hg11, hlv.ext hx0 id, fun i v l hv hl => (hrows i v l hv hl).ext hx0 id, (hx10.trans hx0).mono (fun _ h => h.elim)⟩ ?_
  clear e0 e7 e8 e45 e44 hlv hrows hM10 hx10 hx0
  rintro e w12 ⟨i, G12, hi, e69, e68, e67, e0, e7, hM12, hlv, hrows, hx12⟩
  by_cases hlt : i < 3 + k / 8
  · have hml := madeN_length c.N k (3 + k / 8)
    obtain ⟨a1, ha1, hc1, _⟩ := hlv.1.idx (i := i) (by omega)
    have hli : (madeN c.N k (3 + k / 8))[i]? = some ((madeN c.N k (3 + k / 8)).getD i []) := by rw [List.getD_eq_getElem?_getD, List.getElem?_eq_getElem (by omega)]; rfl
    have hl5 := madeN_len512 hli
    have hrow := hrows i vs[i] _ (List.getElem?_eq_getElem (by omega)) hli
    have hwd := wrN_dirty (c := c) (ls := madeN c.N k (3 + k / 8)) i (by omega)
    have hwN := wrN_N c (madeN c.N k (3 + k / 8)) i
    have hcap : (wrN c (madeN c.N k (3 + k / 8)) i).cap = c.cap := by simp only [Csh.cap, hwN.2.2.1]
    have hcode : (wrN c (madeN c.N k (3 + k / 8)) i).wcode i 512 = 0 := wcode_zero (by rw [hwN.1]; omega) rfl (fun _ => by rw [hcap]; omega)
    simp (maxSteps := 1000000) (disch := omega) only [↓sy1, sy2, sy3, readOK, sy5, sy6, Nat.reduceEqDiff, ↓reduceIte, sy7, sy8, sy9, sya, oneOf, syb, syc, Nat.reduceAdd, Nat.reduceMul, syd, sye, syf, syg, syh, reduceCtorEq, F8_L2, e69, e68, e67, e0, e7, Int.ofNat_lt, hlt, decide_true, ha1, hc1]
    refine call0 (cswrite_spec hM12.cache (n := i) (b := (madeN c.N k (3 + k / 8)).getD i []) hrow.1 (by omega)) ?_
    rintro _ w13 ⟨rfl, G13, hc13, hx13⟩
    rw [hl5, if_pos hcode] at hc13
    have h0 : ¬ (0 = μ) := fun hh => hne.2.1 hh.symm
    simp (maxSteps := 1000000) (disch := omega) only [↓sy1, sy2, sy3, readOK, sy5, sy6, Nat.reduceEqDiff, ↓reduceIte, sy7, sy8, sy9, sya, oneOf, syb, syc, Nat.reduceAdd, Nat.reduceMul, syd, sye, syf, syg, syh, reduceCtorEq, e69, e68, e67, e0, e7]
    exact R_out ⟨⟨i + 1, G13, by omega, rfl, hM12.put hx13 h0 hc13 rfl, hlv.ext hx13 h0, fun i v l hv hl => (hrows i v l hv hl).ext hx13 h0, hx12.trans hx13⟩, by simp only [intOf]; omega⟩
  have hie : i = 3 + k / 8 := by omega
  subst hie
  simp (maxSteps := 1000000) (disch := omega) only [↓sy1, sy2, sy3, readOK, sy5, sy6, Nat.reduceEqDiff, ↓reduceIte, sy7, sy8, sy9, sya, oneOf, syb, syc, Nat.reduceAdd, Nat.reduceMul, syd, sye, syf, syg, syh, reduceCtorEq, F8_L2, e69, e68, e67, e0, e7, Int.ofNat_lt, Nat.lt_irrefl, decide_false]
  obtain ⟨g0, g1, g2⟩ := madeN_get c.N k (3 + k / 8)
  refine R_out ⟨m, G12, rfl, by omega, ⟨?_, Alc.made hk g0 g1 g2⟩, hx12⟩
  rw [upto1_length]; exact hM12
end
end Go.Proofs.Ytbnecclognibaaa

/- A map is opened; a cache for the laws; what must be whatever is asked. -/
namespace Go.Proofs.Ytbnecclognibaaa
open Go
set_option linter.unusedSimpArgs false
open Go.RowKit (intOf)
def beN (l : List UInt8) : Nat := l.foldl (fun n x => n * 256 + x.toNat) 0
theorem beN_snoc {l : List UInt8} {i : Nat} (h : i < l.length) : beN (l.take (i + 1)) = beN (l.take i) * 256 + l[i].toNat := by
  rw [List.take_add_one, List.getElem?_eq_getElem h, beN, List.foldl_append]; rfl
def inoOf (b : List UInt8) : Nat := beN ((b.drop 8).take 4)
theorem inoOf_super {N k : Nat} (hk : k ≤ 512) : inoOf (superB N k) = k := by
  have h1 : ((superB N k).drop 8).take 4 = super4 k := rfl
  rw [inoOf, h1, super4, beN]
  simp only [List.foldl_cons, List.foldl_nil, UInt8.toNat_ofNat']
  omega
theorem shl_256 {n : Nat} (h : n < 16777216) : binV .shl (.int .i64 (n : Int)) (.int .u64 8) = some (.int .i64 ((n * 256 : Nat) : Int)) := by
  simp only [binV]
  rw [if_neg (by omega)]
  have h8 : (2 : Int) ^ (min (Int.toNat 8) IntKind.i64.bits) = 256 := by decide
  rw [h8, wrap_i64 (by omega)]
  congr 2
theorem or_256 {a b : Nat} (ha : a < 16777216) (hb : b < 256) : binV .or (.int .i64 ((a * 256 : Nat) : Int)) (.int .i64 (b : Int)) = some (.int .i64 ((a * 256 + b : Nat) : Int)) := by
  simp only [binV, if_true]
  have h1 : (BitVec.ofInt IntKind.i64.bits ((a * 256 : Nat) : Int) ||| BitVec.ofInt IntKind.i64.bits (b : Int)).toNat = a * 256 + b := by
    rw [BitVec.toNat_or, BitVec.ofInt_natCast, BitVec.ofInt_natCast, BitVec.toNat_ofNat, BitVec.toNat_ofNat]
    have hbits : (2 : Nat) ^ IntKind.i64.bits = 18446744073709551616 := by decide
    rw [hbits, Nat.mod_eq_of_lt (by omega), Nat.mod_eq_of_lt (by omega)]
    have := Nat.shiftLeft_add_eq_or_of_lt (i := 8) (show b < 2 ^ 8 by omega) a
    rw [Nat.shiftLeft_eq] at this
    exact this.symm
  rw [h1, wrap_i64 (by omega)]
/-- A part of a slice. -/
theorem own_mid {B : Nat} {el : TypeId} {w : World} {v : Value} {xs : List Value} (h : w.ownsRow B el 1 v 512 xs) : ∃ v', slcF 1 v (some (.int .i64 8)) (some (.int .i64 12)) none = some v' ∧ Has 1 w v' ((xs.drop 8).take 4) := by
  obtain ⟨h0, ⟨_, h2⟩ | ⟨g, cap, cur, rfl, h2, h3, h4, h5, h6, h7⟩⟩ := h
  · omega
  refine ⟨.slice (some ⟨g, 8, none⟩) 4 (cap - 8), ?_, .inl ⟨g, 8, 4, cap - 8, rfl, by simp [h0], by omega, fun j u hj => ?_⟩⟩
  · have h12 : (12 : Nat) ≤ cap := by omega
    simp [slcF, slcV, bndV, add_lit, show (12 : Int) ≤ (cap : Int) from by omega]
    omega
  · rw [cell_block h3]
    have hj4 : j < 4 := by
      have := (List.getElem?_eq_some_iff.1 hj).1
      simp at this; omega
    rw [List.getElem?_take, if_pos hj4, List.getElem?_drop, ← h7, List.getElem?_take, if_pos (by omega)] at hj
    rw [Array.getElem?_eq_some_iff] 
    rw [List.getElem?_eq_some_iff] at hj
    obtain ⟨hl, hv⟩ := hj
    exact ⟨by simpa using hl, by simpa using hv⟩
section
variable {G : Gh} {κ μ p lq came : Nat} {w : World} {c : Csh}
/-- What Open answers. -/
def OpenR (G : Gh) (κ μ : Nat) (w : World) (m0 p lq came : Nat) (c : Csh) (v : Value) : Prop :=
  (mayA c.N (inoOf (c.page 0)) ∧ c.page 0 = superB c.N (inoOf (c.page 0)) ∧ ∃ m, v = .tuple #[.pointer (some ⟨m, 0, none⟩), .int .i64 0] ∧ m0 ≤ m ∧ MapC G κ μ w m p lq came c (inoOf (c.page 0))) ∨
  (¬ (mayA c.N (inoOf (c.page 0)) ∧ c.page 0 = superB c.N (inoOf (c.page 0))) ∧ v = .tuple #[.pointer none, .int .i64 9] ∧ CacheS G κ μ w p lq came c)
set_option maxHeartbeats 2000000 in
theorem aopen_spec (h : CacheS G κ μ w p lq came c) (hn6 : κ ≠ 6 ∧ μ ≠ 6) (hN : 1 ≤ c.N) :
    Calls Try.prog 12 #[.pointer (some ⟨p, 0, none⟩)] w (Ret fun v w' => ∃ G', Ext (fun x => x = μ) G w G' w' ∧ OpenR G' κ μ w' w.heap.size p lq came c v) := by
  have hpl := h.oks.plen (n := 0) (by omega)
  apply enter12
  apply R_in
  simp (maxSteps := 1000000) (disch := omega) only [↓sy1, sy2, sy3, readOK, sy5, sy6, Nat.reduceEqDiff, ↓reduceIte, sy7, sy8, sy9, sya, oneOf, syb, syc, Nat.reduceAdd, Nat.reduceMul, syd, sye, syf, syg, syh, reduceCtorEq, F12]
  refine call0 (csread_spec h (n := 0) (by omega)) ?_
  rintro _ w1 ⟨u, G1, rfl, hu, hc1, hx1⟩
  obtain ⟨v4, hv4, hH4⟩ := own_mid hu
  have hsub : ((bs (c.page 0)).drop 8).take 4 = bs (((c.page 0).drop 8).take 4) := by simp [bs, List.map_drop, List.map_take]
  rw [hsub] at hH4
  have hll : (((c.page 0).drop 8).take 4).length = 4 := by rw [List.length_take, List.length_drop]; omega
  have hino : inoOf (c.page 0) = beN (((c.page 0).drop 8).take 4) := rfl
  generalize ((c.page 0).drop 8).take 4 = l4 at hH4 hll hino
  have hlen4 : ∀ w', lenF w' 0 v4 = some (.int .i64 4) := fun w' => by rw [Has.lenB hH4, hll]; rfl
  simp (maxSteps := 1000000) (disch := omega) only [↓sy1, sy2, sy3, readOK, sy5, sy6, Nat.reduceEqDiff, ↓reduceIte, sy7, sy8, sy9, sya, oneOf, syb, syc, Nat.reduceAdd, Nat.reduceMul, syd, sye, syf, syg, syh, reduceCtorEq, hv4, hlen4]
  refine loop_rule (fun e w' => ∃ i : Nat, i ≤ 4 ∧ e 20 = .int .i64 i ∧ e 19 = .int .i64 4 ∧ e 18 = v4 ∧ e 0 = .pointer (some ⟨p, 0, none⟩) ∧ e 4 = u ∧ e 6 = .int .i64 (beN (l4.take i) : Nat) ∧ beN (l4.take i) < 256 ^ i ∧ w1 = w') (fun e _ => 4 - (intOf (e 20)).toNat)
    ⟨0, by omega, by simp [upd, updO, ev], by simp [upd, updO, ev], by simp [upd, updO, ev], by simp [upd, updO, ev], by simp [upd, updO, ev], by simp [upd, updO, ev, beN], by simp [beN], rfl⟩ ?_
  rintro e _ ⟨i, hi, e20, e19, e18, e0, e4, e6, hlt, rfl⟩
  by_cases hi4 : i < 4
  · obtain ⟨a, ha, hc, _⟩ := Has.getB hH4 (i := i) (by omega)
    have hpow : (256 : Nat) ^ i ≤ 16777216 := Nat.le_trans (Nat.pow_le_pow_right (by omega) (show i ≤ 3 by omega)) (by decide)
    have hb := (l4[i]'(by omega)).toNat_lt
    have hbe := beN_snoc (l := l4) (i := i) (by omega)
    simp (maxSteps := 1000000) (disch := omega) only [↓sy1, sy2, sy3, readOK, sy5, sy6, Nat.reduceEqDiff, ↓reduceIte, sy7, sy8, sy9, sya, oneOf, syb, syc, Nat.reduceAdd, Nat.reduceMul, syd, sye, syf, syg, syh, reduceCtorEq, F12_L0, e20, e19, e18, e0, e4, e6, show ((i : Int) < 4) from by omega, decide_true, ha, hc, shl_256 (n := beN (l4.take i)) (by omega), or_256 (a := beN (l4.take i)) (b := (l4[i]'(by omega)).toNat) (by omega) (by omega)]
    refine R_out ⟨⟨i + 1, by omega, rfl, by rw [hbe], ?_⟩, by simp only [intOf]; omega⟩
    rw [hbe, Nat.pow_succ]; omega
  have hi' : i = 4 := by omega
  subst hi'
  rw [List.take_of_length_le (by omega), ← hino] at e6
  rw [List.take_of_length_le (by omega), ← hino] at hlt
  have hnum : (256 : Nat) ^ 4 = 4294967296 := by decide
  simp (maxSteps := 1000000) (disch := omega) only [↓sy1, sy2, sy3, readOK, sy5, sy6, Nat.reduceEqDiff, ↓reduceIte, sy7, sy8, sy9, sya, oneOf, syb, syc, Nat.reduceAdd, Nat.reduceMul, syd, sye, syf, syg, syh, reduceCtorEq, F12_L0, e20, e19, e18, e0, e4, e6, show ¬ (((4 : Nat) : Int) < 4) from by omega, decide_false]
  refine call0 (cslog_spec hc1) ?_
  rintro _ w2 ⟨rfl, rfl⟩
  simp (maxSteps := 1000000) (disch := omega) only [↓sy1, sy2, sy3, readOK, sy5, sy6, Nat.reduceEqDiff, ↓reduceIte, sy7, sy8, sy9, sya, oneOf, syb, syc, Nat.reduceAdd, Nat.reduceMul, syd, sye, syf, syg, syh, reduceCtorEq]
  obtain ⟨row, hca⟩ := id hc1
  refine call0 (pages_spec hca.2.log) ?_
  rintro _ w3 ⟨rfl, hg3⟩
  rw [show ((c.D.first.length - c.size - 1 : Nat) : Int) = (c.N : Int) from rfl]
  clear hca
  have hc3 := hc1.grow hg3
  simp (maxSteps := 1000000) (disch := omega) only [↓sy1, sy2, sy3, readOK, sy5, sy6, Nat.reduceEqDiff, ↓reduceIte, sy7, sy8, sy9, sya, oneOf, syb, syc, Nat.reduceAdd, Nat.reduceMul, syd, sye, syf, syg, syh, reduceCtorEq, e6]
  refine call0 (may_spec (a := c.N) (b := (inoOf (c.page 0) : Nat))) ?_
  rintro _ w3 ⟨rfl, rfl⟩
  by_cases hk : mayA c.N (inoOf (c.page 0) : Nat)
  · have hk' := hk
    unfold mayA at hk'
    simp (maxSteps := 1000000) (disch := omega) only [↓sy1, sy2, sy3, readOK, sy5, sy6, Nat.reduceEqDiff, ↓reduceIte, sy7, sy8, sy9, sya, oneOf, syb, syc, Nat.reduceAdd, Nat.reduceMul, syd, sye, syf, syg, syh, reduceCtorEq, decide_eq_true hk, e4, e6, e0]
    refine call0 (super_spec (a := c.N) (b := inoOf (c.page 0)) (by omega) (by omega)) ?_
    rintro sv w4 ⟨hsv, hg4⟩
    simp (maxSteps := 1000000) (disch := omega) only [↓sy1, sy2, sy3, readOK, sy5, sy6, Nat.reduceEqDiff, ↓reduceIte, sy7, sy8, sy9, sya, oneOf, syb, syc, Nat.reduceAdd, Nat.reduceMul, syd, sye, syf, syg, syh, reduceCtorEq]
    refine call0 (bytesEqual_spec (a := c.page 0) (b := superB c.N (inoOf (c.page 0))) (Has.own (own_grow (own_grow hu hg3) hg4)) (Has.own hsv)) ?_
    rintro _ w5 ⟨rfl, rfl⟩
    have hc5 := hc3.grow hg4
    have hx5 : Ext (fun x => x = μ) G w G1 w5 := (hx1.trans (.grow hg3)).trans (.grow hg4)
    by_cases heq : c.page 0 = superB c.N (inoOf (c.page 0))
    · simp (maxSteps := 1000000) (disch := omega) only [↓sy1, sy2, sy3, readOK, sy5, sy6, Nat.reduceEqDiff, ↓reduceIte, sy7, sy8, sy9, sya, oneOf, syb, syc, Nat.reduceAdd, Nat.reduceMul, syd, sye, syf, syg, syh, reduceCtorEq, decide_eq_true heq, e0, e6, fill_gen, fillF_2 (u := .pointer (some ⟨p, 0, none⟩)) (v := .int .i64 ((inoOf (c.page 0) : Nat) : Int)) rfl rfl, agg2_cells (x := .pointer (some ⟨p, 0, none⟩)) (y := .int .i64 ((inoOf (c.page 0) : Nat) : Int)) rfl rfl]
      have hg6 : Grow w5 (w5.alloc (.cells #[.pointer (some ⟨p, 0, none⟩), .int .i64 ((inoOf (c.page 0) : Nat) : Int)] 61)) := (Keep.refl _ _).alloc _
      have hb6 := heap_alloc_new w5 (.cells #[.pointer (some ⟨p, 0, none⟩), .int .i64 ((inoOf (c.page 0) : Nat) : Int)] 61)
      generalize w5.alloc (.cells #[.pointer (some ⟨p, 0, none⟩), .int .i64 ((inoOf (c.page 0) : Nat) : Int)] 61) = w6 at hg6 hb6 ⊢
      have hx6 : Ext0 G1 w5 (G1.upto w5.heap.size (fun _ => 0) (fun _ => maxLen)) w6 := .upto hg6 _ _
      refine R_out ⟨_, hx5.trans (hx6.mono (fun _ h => h.elim)), Or.inl ⟨hk, heq, w5.heap.size, rfl, hx5.size, hc5.ext hx6 id id id, hb6, (upto_own (Nat.le_refl _)).1, hn6, by omega, by omega⟩⟩
    · simp (maxSteps := 1000000) (disch := omega) only [↓sy1, sy2, sy3, readOK, sy5, sy6, Nat.reduceEqDiff, ↓reduceIte, sy7, sy8, sy9, sya, oneOf, syb, syc, Nat.reduceAdd, Nat.reduceMul, syd, sye, syf, syg, syh, reduceCtorEq, decide_eq_false heq]
      exact R_out ⟨G1, hx5, Or.inr ⟨fun hh => heq hh.2, rfl, hc5⟩⟩
  · simp (maxSteps := 1000000) (disch := omega) only [↓sy1, sy2, sy3, readOK, sy5, sy6, Nat.reduceEqDiff, ↓reduceIte, sy7, sy8, sy9, sya, oneOf, syb, syc, Nat.reduceAdd, Nat.reduceMul, syd, sye, syf, syg, syh, reduceCtorEq, decide_eq_false hk]
    exact R_out ⟨G1, hx1.trans (.grow hg3), Or.inr ⟨fun hh => hk hh.1, rfl, hc3⟩⟩
end
/-- A new cache of so many pages. -/
def ac (pages size : Nat) : Csh := Csh.new (Dsk.zero (pages + size + 1)) size 8
theorem ac_N (pages size : Nat) : (ac pages size).N = pages := by show (Dsk.zero (pages + size + 1)).first.length - size - 1 = pages; rw [zero_len]; omega
theorem ac_dirty (pages size : Nat) : (ac pages size).dirty = [] := Csh.new_dirty _ _ _
theorem ac_cap (pages size : Nat) : (ac pages size).cap = min size 100 := rfl
theorem ac_ops (pages size : Nat) : (ac pages size).D.ops.length = 0 := rfl
theorem cached_spec (G : Gh) {w : World} {pages size : Nat} (κ μ : Nat) (hκ : κ ≠ 0) (hμ : μ ≠ 0) (hne : κ ≠ μ) (h1 : 1 ≤ size) (h2 : 1 ≤ pages) (h3 : pages + size + 1 ≤ 4096) :
    Calls Try.prog 7 #[.int .i64 pages, .int .i64 size] w (Ret fun v w' => ∃ p lq G', v = .pointer (some ⟨p, 0, none⟩) ∧ w.heap.size ≤ p ∧ CacheS G' κ μ w' p lq 0 (ac pages size) ∧ Ext0 G w G' w') := by
  apply enter7
  apply R_in
  simp (maxSteps := 1000000) (disch := omega) only [↓sy1, sy2, sy3, readOK, sy5, sy6, Nat.reduceEqDiff, ↓reduceIte, sy7, sy8, sy9, sya, oneOf, syb, syc, Nat.reduceAdd, Nat.reduceMul, syd, sye, syf, syg, syh, reduceCtorEq, F7]
  rw [show (pages : Int) + (size : Int) + 1 = ((pages + size + 1 : Nat) : Int) from by omega]
  refine call0 (new_spec G 1 (n := pages + size + 1) (by omega) (by omega)) ?_
  rintro _ w1 ⟨p, G1, rfl, hp1, hd1, hx1⟩
  simp (maxSteps := 1000000) (disch := omega) only [↓sy1, sy2, sy3, readOK, sy5, sy6, Nat.reduceEqDiff, ↓reduceIte, sy7, sy8, sy9, sya, oneOf, syb, syc, Nat.reduceAdd, Nat.reduceMul, syd, sye, syf, syg, syh, reduceCtorEq]
  refine call0 (open_spec κ hκ hd1 h1 (by rw [zero_len]; omega) (.inl (zero_image (by omega)))) ?_
  rintro _ w3 ⟨q, G3, rfl, hq3, hl3, hx3⟩
  simp (maxSteps := 1000000) (disch := omega) only [↓sy1, sy2, sy3, readOK, sy5, sy6, Nat.reduceEqDiff, ↓reduceIte, sy7, sy8, sy9, sya, oneOf, syb, syc, Nat.reduceAdd, Nat.reduceMul, syd, sye, syf, syg, syh, reduceCtorEq]
  refine call0 (cnew_spec (most := 8) μ hμ hne hl3 (zero_flat _) (zero_calm (by omega)) (by omega) (by omega)) ?_
  rintro _ w5 ⟨p5, G5, rfl, hp5, hc5, hx5⟩
  simp (maxSteps := 1000000) (disch := omega) only [↓sy1, sy2, sy3, readOK, sy5, sy6, Nat.reduceEqDiff, ↓reduceIte, sy7, sy8, sy9, sya, oneOf, syb, syc, Nat.reduceAdd, Nat.reduceMul, syd, sye, syf, syg, syh, reduceCtorEq]
  have hs := (hx1.trans hx3).size
  exact R_out ⟨p5, q, G5, rfl, by omega, hc5.s, (hx1.trans hx3).trans hx5⟩
end Go.Proofs.Ytbnecclognibaaa

/- What must be whatever is asked (maps); a nil map. -/
namespace Go.Proofs.Ytbnecclognibaaa
open Go
set_option linter.unusedSimpArgs false
open Go.RowKit (intOf)
theorem firstN_upto {n N : Nat} (h : n < N) : firstN (upto1 n N) = n :=
  firstN_eq (fun j hj => by rw [upto1_get (by omega), decide_eq_true hj]) (by rw [upto1_get h, decide_eq_false (by omega)])
theorem upto1_set {n N : Nat} (h : n < N) : (upto1 n N).set n true = upto1 (n + 1) N := by
  refine List.ext_getElem? fun i => ?_
  rw [List.getElem?_set]
  split
  · rename_i he; subst he
    rw [upto1_length, if_pos h, upto1_get h, decide_eq_true (by omega)]
  · by_cases hi : i < N
    · rw [upto1_get hi, upto1_get hi]
      refine congrArg some (decide_eq_decide.2 ?_)
      omega
    · rw [List.getElem?_eq_none (by rw [upto1_length]; omega), List.getElem?_eq_none (by rw [upto1_length]; omega)]
theorem freeN_upto : ∀ {n N : Nat}, n ≤ N → freeN (upto1 n N) = N - n := fun {n N} h => by
  have hs : upto1 n N = List.replicate n true ++ List.replicate (N - n) false := by
    refine List.ext_getElem? fun i => ?_
    by_cases hi : i < N
    · rw [upto1_get hi]
      by_cases hin : i < n
      · rw [List.getElem?_append_left (by simpa using hin), List.getElem?_replicate, if_pos hin, decide_eq_true hin]
      · rw [List.getElem?_append_right (by simp; omega), List.getElem?_replicate, if_pos (by simp; omega), decide_eq_false hin]
    · rw [List.getElem?_eq_none (by rw [upto1_length]; omega), List.getElem?_eq_none (by simp; omega)]
  rw [hs, freeN, List.count_append, List.count_replicate, List.count_replicate]; simp
section
variable {c : Csh} {n : Nat}
theorem taken_facts (hn : n < c.N) (h2 : 2 < c.N) : (c.taken n).N = c.N ∧ (c.taken n).D = c.D ∧ (c.taken n).size = c.size ∧ (c.taken n).cap = c.cap ∧ (c.taken n).dirty.length ≤ c.dirty.length + 2 := by
  refine ⟨rfl, rfl, rfl, rfl, ?_⟩
  have h3 := write_dirty (c := c) (b := flipB (c.page 2) n) h2
  have h4 := write_dirty (c := c.turnP n) (n := n) (b := zsec) hn
  have h5 : ((c.turnP n).write n zsec).dirty = (c.taken n).dirty := rfl
  rw [← h5, h4]
  have h6 : (c.turnP n).dirty = (c.write 2 (flipB (c.page 2) n)).dirty := rfl
  rw [h6, h3]
  split <;> split <;> omega
theorem turnI_facts (h2 : 1 < c.N) : (c.turnI n).N = c.N ∧ (c.turnI n).D = c.D ∧ (c.turnI n).size = c.size ∧ (c.turnI n).cap = c.cap ∧ (c.turnI n).dirty.length ≤ c.dirty.length + 1 := by
  refine ⟨rfl, rfl, rfl, rfl, ?_⟩
  have h3 := write_dirty (c := c) (b := flipB (c.page 1) n) h2
  have h6 : (c.turnI n).dirty = (c.write 1 (flipB (c.page 1) n)).dirty := rfl
  rw [h6, h3]
  split <;> omega
theorem turnP_facts (h2 : 2 < c.N) : (c.turnP n).N = c.N ∧ (c.turnP n).D = c.D ∧ (c.turnP n).size = c.size ∧ (c.turnP n).cap = c.cap ∧ (c.turnP n).dirty.length ≤ c.dirty.length + 1 := by
  refine ⟨rfl, rfl, rfl, rfl, ?_⟩
  have h3 := write_dirty (c := c) (b := flipB (c.page 2) n) h2
  have h6 : (c.turnP n).dirty = (c.write 2 (flipB (c.page 2) n)).dirty := rfl
  rw [h6, h3]
  split <;> omega
theorem wrN_facts (ls : List (List UInt8)) (h : n ≤ c.N) : (wrN c ls n).N = c.N ∧ (wrN c ls n).D = c.D ∧ (wrN c ls n).size = c.size ∧ (wrN c ls n).cap = c.cap ∧ (wrN c ls n).dirty.length ≤ c.dirty.length + n := by
  obtain ⟨h1, h2, h3, _⟩ := wrN_N c ls n
  exact ⟨h1, h2, h3, by simp only [Csh.cap, h3], wrN_dirty n h⟩
end
/-- From c to c' nothing but at most d pages more that were written. -/
def Step (c c' : Csh) (d : Nat) : Prop := c'.N = c.N ∧ c'.D = c.D ∧ c'.size = c.size ∧ c'.cap = c.cap ∧ c'.dirty.length ≤ c.dirty.length + d
section
variable {G : Gh} {κ μ m p lq came : Nat} {w : World} {c : Csh} {P I : List Bool}
theorem make_ok (h : CacheS G κ μ w p lq came c) (hn6 : κ ≠ 6 ∧ μ ≠ 6) {k : Nat} (hk : mayA c.N k) (hroom : c.dirty.length + (3 + k / 8) ≤ c.cap) :
    Calls Try.prog 8 #[.pointer (some ⟨p, 0, none⟩), .int .i64 k] w (Ret fun v w' => ∃ m G' c', v = .tuple #[.pointer (some ⟨m, 0, none⟩), .int .i64 0] ∧ w.heap.size ≤ m ∧
      MapAt G' κ μ w' m p lq came c' (upto1 (3 + k / 8) c.N) (upto1 1 k) ∧ Step c c' (3 + k / 8) ∧ Ext (fun x => x = μ) G w G' w') := by
  have hk' := hk
  unfold mayA at hk'
  exact Ret.mono (make_spec h hn6 hk hroom) fun _ _ ⟨m, G', h1, h2, h3, h4⟩ => ⟨m, G', _, h1, h2, h3, wrN_facts _ (by omega), h4⟩
theorem page_ok (h : MapAt G κ μ w m p lq came c P I) (hf : firstN P < P.length) (hroom : c.dirty.length + 2 ≤ c.cap) :
    Calls Try.prog 15 #[.pointer (some ⟨m, 0, none⟩)] w (Ret fun v w' => ∃ G' c', Ext (fun x => x = μ) G w G' w' ∧ v = .tuple #[.int .i64 (firstN P), .int .i64 0] ∧ MapAt G' κ μ w' m p lq came c' (P.set (firstN P) true) I ∧ Step c c' 2 ∧ c'.page (firstN P) = zsec ∧ c'.q (firstN P) ≠ none) := by
  obtain ⟨f1, f2, f3, f4, f5, f6, f7, f8⟩ := h.facts
  refine Ret.mono (page_spec h) fun _ _ ⟨G', h1, h2⟩ => ?_
  rcases h2 with ⟨_, h3, _⟩ | ⟨h3, _, _, h4⟩
  · rw [fits_room (by simpa using hroom)] at h3
    exact absurd (h3 hf) (by simp)
  · exact ⟨G', _, h1, h3, h4, taken_facts (by omega) (by omega), by rw [Csh.taken, Csh.write_page, if_pos rfl], by simp [Csh.taken, Csh.write, qput]⟩
theorem page_full (h : MapAt G κ μ w m p lq came c P I) (hf : firstN P = P.length) :
    Calls Try.prog 15 #[.pointer (some ⟨m, 0, none⟩)] w (Ret fun v w' => ∃ G', Ext (fun x => x = μ) G w G' w' ∧ v = .tuple #[.int .i64 0, .int .i64 7] ∧ MapAt G' κ μ w' m p lq came c P I) := by
  refine Ret.mono (page_spec h) fun _ _ ⟨G', h1, h2⟩ => ?_
  rcases h2 with ⟨h3, _, h4⟩ | ⟨_, h3, _⟩
  · exact ⟨G', h1, h3, h4⟩
  · omega
theorem inode_ok (h : MapAt G κ μ w m p lq came c P I) (hf : firstN I < I.length) (hroom : c.dirty.length + 1 ≤ c.cap) :
    Calls Try.prog 19 #[.pointer (some ⟨m, 0, none⟩)] w (Ret fun v w' => ∃ G' c', Ext (fun x => x = μ) G w G' w' ∧ v = .tuple #[.int .i64 (firstN I), .int .i64 0] ∧ MapAt G' κ μ w' m p lq came c' P (I.set (firstN I) true) ∧ Step c c' 1 ∧ (∀ j, j ≠ 1 → c'.q j = c.q j)) := by
  obtain ⟨f1, f2, f3, f4, f5, f6, f7, f8⟩ := h.facts
  refine Ret.mono (inode_spec h) fun _ _ ⟨G', h1, h2⟩ => ?_
  rcases h2 with ⟨_, h3, _⟩ | ⟨h3, _, _, h4⟩
  · rw [fits_room (by simpa using hroom)] at h3
    exact absurd (h3 hf) (by simp)
  · exact ⟨G', _, h1, h3, h4, turnI_facts (by omega), fun j hj => by simp [Csh.turnI, Csh.write, qput, hj]⟩
theorem inode_full (h : MapAt G κ μ w m p lq came c P I) (hf : firstN I = I.length) :
    Calls Try.prog 19 #[.pointer (some ⟨m, 0, none⟩)] w (Ret fun v w' => ∃ G', Ext (fun x => x = μ) G w G' w' ∧ v = .tuple #[.int .i64 0, .int .i64 7] ∧ MapAt G' κ μ w' m p lq came c P I) := by
  refine Ret.mono (inode_spec h) fun _ _ ⟨G', h1, h2⟩ => ?_
  rcases h2 with ⟨h3, _, h4⟩ | ⟨_, h3, _⟩
  · exact ⟨G', h1, h3, h4⟩
  · omega
theorem Step.zero (c : Csh) : Step c c 0 := ⟨rfl, rfl, rfl, rfl, Nat.le_refl _⟩
theorem Step.trans {c c' c'' : Csh} {d d' : Nat} (h : Step c c' d) (h' : Step c' c'' d') : Step c c'' (d + d') :=
  ⟨h'.1.trans h.1, h'.2.1.trans h.2.1, h'.2.2.1.trans h.2.2.1, h'.2.2.2.1.trans h.2.2.2.1, by have := h.2.2.2.2; have := h'.2.2.2.2; omega⟩
theorem Step.le {c c' : Csh} {d d' : Nat} (h : Step c c' d) (hd : d ≤ d') : Step c c' d' := ⟨h.1, h.2.1, h.2.2.1, h.2.2.2.1, by have := h.2.2.2.2; omega⟩
theorem giveC_ok {l : List Bool} {n least : Int} (h : giveC l n least = 0) : least ≤ n ∧ n < l.length ∧ l[n.toNat]? = some true := by
  unfold giveC at h
  split at h
  · cases h
  · split at h
    · exact ⟨by omega, by omega, by assumption⟩
    · cases h
/-- A page is given back. -/
theorem givep_ok (h : MapAt G κ μ w m p lq came c P I) {n : Int} (hroom : c.dirty.length + 1 ≤ c.cap) :
    Calls Try.prog 16 #[.pointer (some ⟨m, 0, none⟩), .int .i64 n] w (Ret fun v w' => ∃ G' c', Ext (fun x => x = μ) G w G' w' ∧ v = .int .i64 (giveC P n (3 + I.length / 8 : Nat)) ∧ MapAt G' κ μ w' m p lq came c' (giveL P n (3 + I.length / 8 : Nat)) I ∧ Step c c' 1 ∧ (∀ j, 3 ≤ j → c'.page j = c.page j) ∧ (∀ j, j ≠ 2 → c'.q j = c.q j)) := by
  obtain ⟨f1, f2, f3, f4, f5, f6, f7, f8⟩ := h.facts
  apply enter16
  apply R_in
  simp (maxSteps := 1000000) (disch := omega) only [↓sy1, sy2, sy3, readOK, sy5, sy6, Nat.reduceEqDiff, ↓reduceIte, sy7, sy8, sy9, sya, oneOf, syb, syc, Nat.reduceAdd, Nat.reduceMul, syd, sye, syf, syg, syh, reduceCtorEq, F16]
  refine call0 (firstc_spec h.1.cells.2 (by omega)) ?_
  rintro _ w1 ⟨rfl, rfl⟩
  simp (maxSteps := 1000000) (disch := omega) only [↓sy1, sy2, sy3, readOK, sy5, sy6, Nat.reduceEqDiff, ↓reduceIte, sy7, sy8, sy9, sya, oneOf, syb, syc, Nat.reduceAdd, Nat.reduceMul, syd, sye, syf, syg, syh, reduceCtorEq]
  refine call0 (give_spec h.1 (pg := 2) (.inr rfl) (L := P) h.2.p f1 (n := n) (least := 3 + I.length / 8)) ?_
  rintro _ w2 ⟨G2, hx2, rfl, h2⟩
  rw [fits_room (c := c) (l := [((2 : Nat) : Int)]) (by simpa using hroom)] at h2 ⊢
  by_cases hz : giveC P n (3 + I.length / 8 : Nat) = 0
  · obtain ⟨g1, g2, g3⟩ := giveC_ok hz
    rw [if_pos ⟨hz, rfl⟩] at h2
    have hset : giveL P n (3 + I.length / 8 : Nat) = P.set n.toNat (!true) := by unfold giveL; rw [if_pos hz]; rfl
    rw [if_neg (by simp), hset]
    simp (maxSteps := 1000000) (disch := omega) only [↓sy1, sy2, sy3, readOK, sy5, sy6, Nat.reduceEqDiff, ↓reduceIte, sy7, sy8, sy9, sya, oneOf, syb, syc, Nat.reduceAdd, Nat.reduceMul, syd, sye, syf, syg, syh, reduceCtorEq]
    exact R_out ⟨G2, c.turnP n.toNat, hx2, ⟨h2, h.2.flipP f8 (by omega) g3⟩, turnP_facts (by omega), fun j hj => by rw [Csh.turnP, Csh.write_page, if_neg (by omega)], fun j hj => by simp [Csh.turnP, Csh.write, qput, hj]⟩
  · rw [if_neg (fun hh => hz hh.1)] at h2
    have hset : giveL P n (3 + I.length / 8 : Nat) = P := by unfold giveL; rw [if_neg hz]
    rw [if_neg (fun hh => hz hh.1), hset]
    simp (maxSteps := 1000000) (disch := omega) only [↓sy1, sy2, sy3, readOK, sy5, sy6, Nat.reduceEqDiff, ↓reduceIte, sy7, sy8, sy9, sya, oneOf, syb, syc, Nat.reduceAdd, Nat.reduceMul, syd, sye, syf, syg, syh, reduceCtorEq]
    exact R_out ⟨G2, c, hx2, ⟨h2, h.2⟩, (Step.zero c).le (by omega), fun j _ => rfl, fun j _ => rfl⟩
theorem givei_ok (h : MapAt G κ μ w m p lq came c P I) {n : Int} (hroom : c.dirty.length + 1 ≤ c.cap) :
    Calls Try.prog 20 #[.pointer (some ⟨m, 0, none⟩), .int .i64 n] w (Ret fun v w' => ∃ G' c', Ext (fun x => x = μ) G w G' w' ∧ v = .int .i64 (giveC I n 1) ∧ MapAt G' κ μ w' m p lq came c' P (giveL I n 1) ∧ Step c c' 1 ∧ (∀ j, j ≠ 1 → c'.q j = c.q j)) := by
  obtain ⟨f1, f2, f3, f4, f5, f6, f7, f8⟩ := h.facts
  apply enter20
  apply R_in
  simp (maxSteps := 1000000) (disch := omega) only [↓sy1, sy2, sy3, readOK, sy5, sy6, Nat.reduceEqDiff, ↓reduceIte, sy7, sy8, sy9, sya, oneOf, syb, syc, Nat.reduceAdd, Nat.reduceMul, syd, sye, syf, syg, syh, reduceCtorEq, F20]
  refine call0 (give_spec h.1 (pg := 1) (.inl rfl) (L := I) h.2.i f1 (n := n) (least := 1)) ?_
  rintro _ w2 ⟨G2, hx2, rfl, h2⟩
  rw [fits_room (c := c) (l := [((1 : Nat) : Int)]) (by simpa using hroom)] at h2 ⊢
  rw [show (((1 : Nat) : Int)) = 1 from rfl] at h2 ⊢
  by_cases hz : giveC I n 1 = 0
  · obtain ⟨g1, g2, g3⟩ := giveC_ok hz
    rw [if_pos ⟨hz, rfl⟩] at h2
    have hset : giveL I n 1 = I.set n.toNat (!true) := by unfold giveL; rw [if_pos hz]; rfl
    rw [if_neg (by simp), hset]
    simp (maxSteps := 1000000) (disch := omega) only [↓sy1, sy2, sy3, readOK, sy5, sy6, Nat.reduceEqDiff, ↓reduceIte, sy7, sy8, sy9, sya, oneOf, syb, syc, Nat.reduceAdd, Nat.reduceMul, syd, sye, syf, syg, syh, reduceCtorEq]
    refine R_out ⟨G2, c.turnI n.toNat, hx2, ⟨?_, h.2.flipI f7 (by omega) g3⟩, turnI_facts (by omega), fun j hj => by simp [Csh.turnI, Csh.write, qput, hj]⟩
    rw [List.length_set]; exact h2
  · rw [if_neg (fun hh => hz hh.1)] at h2
    have hset : giveL I n 1 = I := by unfold giveL; rw [if_neg hz]
    rw [if_neg (fun hh => hz hh.1), hset]
    simp (maxSteps := 1000000) (disch := omega) only [↓sy1, sy2, sy3, readOK, sy5, sy6, Nat.reduceEqDiff, ↓reduceIte, sy7, sy8, sy9, sya, oneOf, syb, syc, Nat.reduceAdd, Nat.reduceMul, syd, sye, syf, syg, syh, reduceCtorEq]
    exact R_out ⟨G2, c, hx2, ⟨h2, h.2⟩, (Step.zero c).le (by omega), fun j _ => rfl⟩
theorem used_ok (h : MapAt G κ μ w m p lq came c P I) {n : Int} :
    Calls Try.prog 22 #[.pointer (some ⟨m, 0, none⟩), .int .i64 n] w (Ret fun v w' => v = .bool (usedC P n) ∧ ∃ G', Ext (fun x => x = μ) G w G' w' ∧ MapAt G' κ μ w' m p lq came c P I) := by
  apply enter22
  apply R_in
  simp (maxSteps := 1000000) (disch := omega) only [↓sy1, sy2, sy3, readOK, sy5, sy6, Nat.reduceEqDiff, ↓reduceIte, sy7, sy8, sy9, sya, oneOf, syb, syc, Nat.reduceAdd, Nat.reduceMul, syd, sye, syf, syg, syh, reduceCtorEq, F22]
  refine call0 (is_spec h.1 (pg := 2) (.inr rfl) (L := P) h.2.p (n := n)) ?_
  rintro _ w2 ⟨rfl, G2, hx2, h2⟩
  simp (maxSteps := 1000000) (disch := omega) only [↓sy1, sy2, sy3, readOK, sy5, sy6, Nat.reduceEqDiff, ↓reduceIte, sy7, sy8, sy9, sya, oneOf, syb, syc, Nat.reduceAdd, Nat.reduceMul, syd, sye, syf, syg, syh, reduceCtorEq]
  exact R_out ⟨G2, hx2, h2, h.2⟩
theorem usedi_ok (h : MapAt G κ μ w m p lq came c P I) {n : Int} :
    Calls Try.prog 23 #[.pointer (some ⟨m, 0, none⟩), .int .i64 n] w (Ret fun v w' => v = .bool (usedC I n) ∧ ∃ G', Ext (fun x => x = μ) G w G' w' ∧ MapAt G' κ μ w' m p lq came c P I) := by
  apply enter23
  apply R_in
  simp (maxSteps := 1000000) (disch := omega) only [↓sy1, sy2, sy3, readOK, sy5, sy6, Nat.reduceEqDiff, ↓reduceIte, sy7, sy8, sy9, sya, oneOf, syb, syc, Nat.reduceAdd, Nat.reduceMul, syd, sye, syf, syg, syh, reduceCtorEq, F23]
  refine call0 (is_spec h.1 (pg := 1) (.inl rfl) (L := I) h.2.i (n := n)) ?_
  rintro _ w2 ⟨rfl, G2, hx2, h2⟩
  simp (maxSteps := 1000000) (disch := omega) only [↓sy1, sy2, sy3, readOK, sy5, sy6, Nat.reduceEqDiff, ↓reduceIte, sy7, sy8, sy9, sya, oneOf, syb, syc, Nat.reduceAdd, Nat.reduceMul, syd, sye, syf, syg, syh, reduceCtorEq]
  exact R_out ⟨G2, hx2, h2, h.2⟩
/-- The cache of a map commits. -/
theorem mcommit_ok (h : MapAt G κ μ w m p lq came c P I) (ho : c.D.ops.length < 700000) :
    Calls Try.prog 14 #[.pointer (some ⟨p, 0, none⟩)] w (Ret fun v w' => v = .int .i64 0 ∧ ∃ G', Ext (fun x => x = κ ∨ x = μ) G w G' w' ∧ MapAt G' κ μ w' m p lq came c.commit P I) := by
  have hne := h.1.cache.ne
  obtain ⟨row, hok⟩ := h.1.cache.oks
  refine Ret.mono (cscommit_spec h.1.cache ho) fun _ _ ⟨h2, G', h3, h4⟩ => ⟨h2, G', h4, h.1.put h4 ?_ h3 (Csh.commit_N c), ?_⟩
  · rintro (hh | hh)
    · exact hne.2.2 hh.symm
    · exact hne.2.1 hh.symm
  · have h5 := h.2
    exact h5.congr (Csh.commit_N c) fun n hn => Csh.commit_page (c := { c with row := row }) hok (by
      have := h.facts.2.2.2.2.1
      show n < c.N
      omega)
theorem commit_facts {c : Csh} (h : c.OkS) : c.commit.N = c.N ∧ c.commit.dirty = [] ∧ c.commit.cap = c.cap ∧ c.commit.size = c.size ∧ c.commit.D.ops.length ≤ c.D.ops.length + 206 :=
  ⟨Csh.commit_N c, Csh.dirty_commit c, rfl, rfl, h.cops.1⟩
end
set_option maxHeartbeats 4000000 in
theorem live5_spec (w : World) : Calls Try.prog 10 #[] w (Ret fun v w' => v = .bool true ∧ Grow w w') := by
  apply enter10
  apply R_in
  simp (maxSteps := 1000000) (disch := omega) only [↓sy1, sy2, sy3, readOK, sy5, sy6, Nat.reduceEqDiff, ↓reduceIte, sy7, sy8, sy9, sya, oneOf, syb, syc, Nat.reduceAdd, Nat.reduceMul, syd, sye, syf, syg, syh, reduceCtorEq, F10]
  refine call0 (cached_spec G00 (pages := 40) (size := 50) 2 7 (by omega) (by omega) (by omega) (by omega) (by omega) (by omega)) ?_
  rintro _ w1 ⟨p, lq, G1, rfl, hp1, hc1, hx1⟩
  simp (maxSteps := 1000000) (disch := omega) only [↓sy1, sy2, sy3, readOK, sy5, sy6, Nat.reduceEqDiff, ↓reduceIte, sy7, sy8, sy9, sya, oneOf, syb, syc, Nat.reduceAdd, Nat.reduceMul, syd, sye, syf, syg, syh, reduceCtorEq]
  have hN := ac_N 40 50
  have hd := ac_dirty 40 50
  have hcap : (ac 40 50).cap = 50 := ac_cap 40 50
  generalize ac 40 50 = c0 at hc1 hN hd hcap
  have hmay : mayA c0.N ((8 : Nat) : Int) := by unfold mayA; omega
  refine call0 (make_ok hc1 (by omega) (k := 8) hmay (by rw [hd, hcap]; simp)) ?_
  rintro _ w2 ⟨m, G2, c1, rfl, hm2, h2, hst1, hx2⟩
  rw [hN] at h2
  obtain ⟨n1, n2, n3, n4, n5⟩ := id hst1
  rw [hd] at n5
  simp only [List.length_nil] at n5
  have hf1 : firstN (upto1 (3 + 8 / 8) 40) = 4 := firstN_upto (by omega)
  simp (maxSteps := 1000000) (disch := omega) only [↓sy1, sy2, sy3, readOK, sy5, sy6, Nat.reduceEqDiff, ↓reduceIte, sy7, sy8, sy9, sya, oneOf, syb, syc, Nat.reduceAdd, Nat.reduceMul, syd, sye, syf, syg, syh, reduceCtorEq]
  refine call0 (page_ok h2 (by rw [hf1, upto1_length]; omega) (by omega)) ?_
  rintro _ w3 ⟨G3, c2, hx3, rfl, h3, hst2, _, _⟩
  rw [hf1, show (upto1 (3 + 8 / 8) 40).set 4 true = upto1 5 40 from upto1_set (by omega)] at h3
  rw [hf1]
  obtain ⟨o1, o2, o3, o4, o5⟩ := id hst2
  have hf2 : firstN (upto1 5 40) = 5 := firstN_upto (by omega)
  simp (maxSteps := 1000000) (disch := omega) only [↓sy1, sy2, sy3, readOK, sy5, sy6, Nat.reduceEqDiff, ↓reduceIte, sy7, sy8, sy9, sya, oneOf, syb, syc, Nat.reduceAdd, Nat.reduceMul, syd, sye, syf, syg, syh, reduceCtorEq]
  refine call0 (page_ok h3 (by rw [hf2, upto1_length]; omega) (by omega)) ?_
  rintro _ w4 ⟨G4, c3, hx4, rfl, h4, hst3, _, _⟩
  rw [hf2, show (upto1 5 40).set 5 true = upto1 6 40 from upto1_set (by omega)] at h4
  rw [hf2]
  simp (maxSteps := 1000000) (disch := omega) only [↓sy1, sy2, sy3, readOK, sy5, sy6, Nat.reduceEqDiff, ↓reduceIte, sy7, sy8, sy9, sya, oneOf, syb, syc, Nat.reduceAdd, Nat.reduceMul, syd, sye, syf, syg, syh, reduceCtorEq]
  refine call0 (free_spec h4 (by rw [upto1_length]; omega)) ?_
  rintro _ w5 ⟨rfl, G5, hx5, h5⟩
  rw [freeN_upto (by omega), freeN_upto (by omega)]
  simp (maxSteps := 1000000) (disch := omega) only [↓sy1, sy2, sy3, readOK, sy5, sy6, Nat.reduceEqDiff, ↓reduceIte, sy7, sy8, sy9, sya, oneOf, syb, syc, Nat.reduceAdd, Nat.reduceMul, syd, sye, syf, syg, syh, reduceCtorEq, decide_true]
  refine call0 (firstc_spec h5.1.cells.2 (by rw [upto1_length]; omega)) ?_
  rintro _ w6 ⟨rfl, rfl⟩
  rw [upto1_length, show ((3 + 8 / 8 : Nat) : Int) = 4 from rfl]
  simp (maxSteps := 1000000) (disch := omega) only [↓sy1, sy2, sy3, readOK, sy5, sy6, Nat.reduceEqDiff, ↓reduceIte, sy7, sy8, sy9, sya, oneOf, syb, syc, Nat.reduceAdd, Nat.reduceMul, syd, sye, syf, syg, syh, reduceCtorEq, show (((4 : Nat) : Int)) = 4 from rfl, show (((5 : Nat) : Int)) = 5 from rfl, show (((40 - 6 : Nat) : Int)) = 34 from rfl, show (((8 - 1 : Nat) : Int)) = 7 from rfl, decide_true]
  have hx : Ext (fun x => x = 7) G00 w G5 w6 := ((((hx1.mono (fun _ h => h.elim)).trans hx2).trans hx3).trans hx4).trans hx5
  exact R_out (hx.toGrow (by omega))
end Go.Proofs.Ytbnecclognibaaa
