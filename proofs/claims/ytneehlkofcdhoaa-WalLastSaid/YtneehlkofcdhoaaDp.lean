/- A deed's pages. -/
import Derived.Test.YtneehlkofcdhoaaCm
namespace Go.Proofs.Ytneehlkofcdhoaa
open Go
set_option linter.unusedSimpArgs false
open Go.RowKit (intOf)
theorem elemPg : ElemIs Try.prog 29 37 2 32 (.agg #[.int .i64 0, .slice none 0 0]) := elem_of (by kernel_rfl)
/-- Pages in memory that the call made. -/
def FreshP (B : Nat) (w : World) (v : Value) (ps : List Pg) : Prop := ∃ xs, w.ownsRow B 37 2 v ps.length xs ∧ xs.length = 2 * ps.length ∧ (∀ x ∈ xs, isCell x = true) ∧
  ∀ i (h : i < ps.length), xs[2 * i]? = some (.int .i64 ps[i].1) ∧ ∃ u, xs[2 * i + 1]? = some u ∧ w.ownsRow B 5 1 u ps[i].2.length (bs ps[i].2)
theorem FreshP.keep {S : Nat → Prop} {B : Nat} {w w' : World} {v : Value} {ps : List Pg} (h : FreshP B w v ps) (hk : Keep S w w') (hs : ∀ b, B ≤ b → ¬ S b) : FreshP B w' v ps := by
  obtain ⟨xs, h1, h2, h3, h4⟩ := h
  refine ⟨xs, own_keepk h1 hk (fun b hb => hs b (World.ownsRow.lt h1 b hb).1), h2, h3, fun i hi => ?_⟩
  obtain ⟨h5, u, h6, h7⟩ := h4 i hi
  exact ⟨h5, u, h6, own_keep h7 hk (fun b hb => hs b (World.ownsRow.lt h7 b hb).1)⟩
theorem FreshP.grow {B : Nat} {w w' : World} {v : Value} {ps : List Pg} (h : FreshP B w v ps) (hk : Grow w w') : FreshP B w' v ps := h.keep hk (fun _ _ => id)
theorem FreshP.held {G : Gh} {κ B : Nat} {w : World} {v : Value} {ps : List Pg} (h : FreshP B w v ps) (hG : ∀ b, B ≤ b → G.own b ≠ κ) : ∃ xs, PagesH G κ w v ps xs := by
  obtain ⟨xs, h1, h2, _, h4⟩ := h
  refine ⟨xs, Has.own h1, h2, fun b hb _ => ?_, fun i hi => ?_⟩
  · obtain ⟨h5, h6⟩ := World.ownsRow.lt h1 b hb
    exact ⟨h6, hG b h5⟩
  · obtain ⟨h5, u, h6, h7⟩ := h4 i hi
    exact ⟨h5, u, h6, Has.own h7, fun b hb _ => by
      obtain ⟨h8, h9⟩ := World.ownsRow.lt h7 b hb
      exact ⟨h9, hG b h8⟩⟩
theorem FreshP.heldx {B : Nat} {w : World} {v : Value} {ps : List Pg} (h : FreshP B w v ps) : ∃ xs, ∀ {G : Gh} {κ : Nat}, (∀ b, B ≤ b → G.own b ≠ κ) → PagesH G κ w v ps xs := by
  obtain ⟨xs, h1, h2, _, h4⟩ := h
  refine ⟨xs, fun hG => ⟨Has.own h1, h2, fun b hb _ => ?_, fun i hi => ?_⟩⟩
  · obtain ⟨h5, h6⟩ := World.ownsRow.lt h1 b hb
    exact ⟨h6, hG b h5⟩
  · obtain ⟨h5, u, h6, h7⟩ := h4 i hi
    exact ⟨h5, u, h6, Has.own h7, fun b hb _ => by
      obtain ⟨h8, h9⟩ := World.ownsRow.lt h7 b hb
      exact ⟨h9, hG b h8⟩⟩
/-- The cells of pages whose bytes the call made. -/
def PgCells (B : Nat) (w : World) (xs : List Value) (ps : List Pg) : Prop := xs.length = 2 * ps.length ∧ (∀ x ∈ xs, isCell x = true) ∧
  ∀ i (h : i < ps.length), xs[2 * i]? = some (.int .i64 ps[i].1) ∧ ∃ u, xs[2 * i + 1]? = some u ∧ w.ownsRow B 5 1 u ps[i].2.length (bs ps[i].2)
theorem PgCells.nil (B : Nat) (w : World) : PgCells B w [] [] := ⟨rfl, by simp, fun i hi => by simp at hi⟩
theorem PgCells.keep {S : Nat → Prop} {B : Nat} {w w' : World} {xs : List Value} {ps : List Pg} (h : PgCells B w xs ps) (hk : Keep S w w') (hs : ∀ b, S b → ∀ {B' n : Nat} {u : Value} {ys : List Value}, w.ownsRow B' 5 1 u n ys → u.ownBlock ≠ some b) : PgCells B w' xs ps := by
  obtain ⟨h2, h3, h4⟩ := h
  refine ⟨h2, h3, fun i hi => ?_⟩
  obtain ⟨h5, u, h6, h7⟩ := h4 i hi
  exact ⟨h5, u, h6, own_keep h7 hk (fun b hb hS => hs b hS h7 hb)⟩
theorem PgCells.snoc {B : Nat} {w : World} {xs : List Value} {ps : List Pg} {p : Pg} {u : Value} (h : PgCells B w xs ps) (hu : w.ownsRow B 5 1 u p.2.length (bs p.2)) : PgCells B w (xs ++ [.int .i64 p.1, u]) (ps ++ [p]) := by
  obtain ⟨h2, h3, h4⟩ := h
  refine ⟨by simp [h2]; omega, fun y hy => ?_, fun j hj => ?_⟩
  · rcases List.mem_append.1 hy with hy | hy
    · exact h3 y hy
    · simp at hy
      rcases hy with rfl | rfl
      · rfl
      · exact (Has.own hu).isCell
  · by_cases hji : j < ps.length
    · obtain ⟨h5, u', h6, h7⟩ := h4 j hji
      rw [List.getElem_append_left hji, List.getElem?_append_left (by omega), List.getElem?_append_left (by omega)]
      exact ⟨h5, u', h6, h7⟩
    · have hje : j = ps.length := by simp at hj; omega
      subst hje
      rw [List.getElem_append_right (Nat.le_refl _), List.getElem?_append_right (by omega), List.getElem?_append_right (by omega), show 2 * ps.length - xs.length = 0 from by omega, show 2 * ps.length + 1 - xs.length = 1 from by omega]
      simp only [Nat.sub_self, List.getElem_cons_zero]
      exact ⟨rfl, u, rfl, hu⟩
theorem own_basek {k B B' n : Nat} {el : TypeId} {w : World} {v : Value} {xs : List Value} (h : w.ownsRow B el k v n xs) (hB : B' ≤ B) : w.ownsRow B' el k v n xs := by
  obtain ⟨h1, h2 | ⟨g, cap, cur, rfl, h2, h3⟩⟩ := h
  · exact ⟨h1, .inl h2⟩
  · exact ⟨h1, .inr ⟨g, cap, cur, rfl, Nat.le_trans hB h2, h3⟩⟩
theorem FreshP.base {B B' : Nat} {w : World} {v : Value} {ps : List Pg} (h : FreshP B w v ps) (hB : B' ≤ B) : FreshP B' w v ps := by
  obtain ⟨xs, h1, h2, h3, h4⟩ := h
  exact ⟨xs, own_basek h1 hB, h2, h3, fun i hi => let ⟨h5, u, h6, h7⟩ := h4 i hi; ⟨h5, u, h6, own_base h7 hB⟩⟩
theorem FreshP.nil (B : Nat) (w : World) : FreshP B w (.slice none 0 0) [] := ⟨[], World.ownsRow_nil w B _ 2, rfl, by simp, fun i hi => by simp at hi⟩
structure Deed3 where
  short : Bool
  pages : List Int
  byte : UInt8
/-- A row of numbers that is only read (one without any may lie anywhere). -/
def HasX (w : World) (v : Value) (l : List Int) : Prop := HasI w v l ∨ (l = [] ∧ ∃ a, v = .slice (some a) 0 0)
theorem HasX.keep {S : Nat → Prop} {w w' : World} {v : Value} {l : List Int} (h : HasX w v l) (hk : Keep S w w') (hs : ∀ b, b < w.heap.size → ¬ S b) : HasX w' v l := by
  rcases h with h | h
  · exact .inl (h.keep hk (fun b hb hne => hs b (h.lt hne hb)))
  · exact .inr h
theorem HasX.isCell {w : World} {v : Value} {l : List Int} (h : HasX w v l) : Go.Proofs.Ytneehlkofcdhoaa.isCell v = true := by
  rcases h with h | ⟨_, a, rfl⟩
  · exact Has.isCell h
  · rfl
theorem HasX.lenI {w : World} {v : Value} {l : List Int} (h : HasX w v l) (w2 : World) : lenF w2 0 v = some (.int .i64 l.length) := by
  rcases h with h | ⟨rfl, a, rfl⟩
  · exact Has.lenI h w2
  · rfl
theorem HasX.getI {w : World} {v : Value} {l : List Int} (h : HasX w v l) {i : Nat} (hi : i < l.length) : ∃ a, iaF 1 v (.int .i64 i) = some (.pointer (some a)) ∧ w.cell? a = some (.int .i64 l[i]) ∧ v.ownBlock = some a.block := by
  rcases h with h | ⟨rfl, _⟩
  · exact Has.getI h hi
  · simp at hi
theorem HasX.grow {w w' : World} {v : Value} {l : List Int} (h : HasX w v l) (hk : Grow w w') : HasX w' v l := h.keep hk (fun _ _ => id)
/-- A deed in memory. -/
def Deed3.At (w : World) (v : Value) (x : Deed3) : Prop := ∃ u, v = .agg #[.bool x.short, u, .int .u8 (x.byte.toNat : Int)] ∧ HasX w u x.pages
theorem Deed3.At.keep {S : Nat → Prop} {w w' : World} {v : Value} {x : Deed3} (h : Deed3.At w v x) (hk : Keep S w w') (hs : ∀ b, b < w.heap.size → ¬ S b) : Deed3.At w' v x := by
  obtain ⟨u, h1, h2⟩ := h
  exact ⟨u, h1, h2.keep hk hs⟩
theorem Deed3.At.grow {w w' : World} {v : Value} {x : Deed3} (h : Deed3.At w v x) (hk : Grow w w') : Deed3.At w' v x := h.keep hk (fun _ _ => id)
def Deed3.byteAt (x : Deed3) (i : Nat) : UInt8 := x.byte + UInt8.ofNat i
def Deed3.page (x : Deed3) (i : Nat) : Pg := (x.pages.getD i 0, List.replicate (if x.short = true ∧ i = 0 then 511 else 512) (x.byteAt i))
/-- Its pages. -/
def Deed3.pgs (x : Deed3) : List Pg := (List.range (min x.pages.length 102)).map x.page
theorem Deed3.pgs_length (x : Deed3) : x.pgs.length = min x.pages.length 102 := by simp [Deed3.pgs]
theorem Has.newp {w : World} {x y : Value} {t : TypeId} : Has 2 (w.alloc (.cells #[x, y] t)) (.slice (some ⟨w.heap.size, 0, none⟩) 1 1) [x, y] := by
  refine .inl ⟨w.heap.size, 0, 1, 1, rfl, rfl, Nat.le_refl _, fun j u hj => ?_⟩
  rw [cell_block (heap_alloc_new w _)]
  match j, hj with
  | 0, hj => simpa using hj
  | 1, hj => simpa using hj
/-- An own row up to a place. -/
theorem own_slcTo {w : World} {B n m : Nat} {el : TypeId} {v : Value} {xs : List Value} (h : w.ownsRow B el 1 v n xs) (hm : m ≤ n) (hn : 0 < n) :
    ∃ v', slcF 1 v none (some (.int .i64 m)) none = some v' ∧ w.ownsRow B el 1 v' m (xs.take m) := by
  obtain ⟨h1, ⟨_, h2⟩ | ⟨g, cap, cur, rfl, h2, h3, h4, h5, h6, h7⟩⟩ := h
  · omega
  · refine ⟨.slice (some ⟨g, 0, none⟩) m cap, ?_, by simp at h1 ⊢; omega, .inr ⟨g, cap, cur, rfl, h2, h3, by omega, h5, h6, ?_⟩⟩
    · simp only [slcF, slcV, bndV]
      rw [if_pos ⟨by omega, by omega⟩]
      simp [add_lit]
    · rw [← h7, List.take_take, Nat.min_eq_left (by omega), Nat.mul_one]
theorem fillF_p {a b x y : Value} : fillF #[a, b] [(0, 2, .agg #[x, y])] = some #[x, y] := by
  rw [fillF_two (by simp), fillF_nil]; simp
theorem byteAt_val (x : Deed3) (i : Nat) : (((x.byteAt i).toNat : Nat) : Int) = ((x.byte.toNat : Int) + (i : Int) % 256) % 256 := by
  simp only [Deed3.byteAt, UInt8.toNat_add, UInt8.toNat_ofNat']
  omega
set_option maxHeartbeats 1000000 in
theorem dpages_spec {w : World} {v : Value} {x : Deed3} (h : Deed3.At w v x) :
    Calls Try.prog 13 #[v] w (Ret fun r w' => FreshP w.heap.size w' r x.pgs ∧ Grow w w') := by
  obtain ⟨pv, rfl, hpv⟩ := h
  have hpc := hpv.isCell
  have hcells := agg3_cells (x := .bool x.short) (y := pv) (z := .int .u8 (x.byte.toNat : Int)) rfl hpc rfl
  have hb0 := heap_alloc_new w (.cells #[.bool x.short, pv, .int .u8 (x.byte.toNat : Int)] 32)
  have hg0 : Grow w (w.alloc (.cells #[.bool x.short, pv, .int .u8 (x.byte.toNat : Int)] 32)) := (Keep.refl _ _).alloc _
  apply enter13
  apply R_in
  simp (maxSteps := 600000) (disch := omega) only [F13, ↓sy1, sy2, sy3, readOK, sy5, sy6, Nat.reduceEqDiff, ↓reduceIte, sy7, sy8, sy9, sya, oneOf, syb, syc, Nat.reduceAdd, Nat.reduceMul, syd, sye, syf, syg, syh, reduceCtorEq, hcells]
  generalize w.alloc (.cells #[.bool x.short, pv, .int .u8 (x.byte.toNat : Int)] 32) = w0 at hb0 hg0 ⊢
  have hB0 : w.heap.size < w0.heap.size := (Array.getElem?_eq_some_iff.1 hb0).1
  generalize hB : w.heap.size = B at hb0 hB0 ⊢
  have hlen : ∀ w', lenF w' 0 pv = some (.int .i64 x.pages.length) := fun w' => hpv.lenI w'
  have hpl := x.pgs_length
  refine loop_rule (fun e w' => ∃ i : Nat, i ≤ x.pgs.length ∧ e 4 = .int .i64 i ∧ e 1 = .pointer (some ⟨B, 0, none⟩) ∧ Grow w0 w' ∧ FreshP w0.heap.size w' (e 3) (x.pgs.take i)) (fun e _ => x.pgs.length - (intOf (e 4)).toNat)
    ⟨0, by omega, by simp [upd, updO, ev], by simp [upd, updO, ev], Keep.refl _ _, by simpa [upd, updO, ev] using FreshP.nil w0.heap.size w0⟩ ?_
  rintro e w1 ⟨i, hi, e4, e1, hg1, hf1⟩
  have hc0 : ∀ {w'}, Grow w1 w' → w'.cell? ⟨B, 0, none⟩ = some (.bool x.short) ∧ w'.cell? ⟨B, 1, none⟩ = some pv ∧ w'.cell? ⟨B, 2, none⟩ = some (.int .u8 (x.byte.toNat : Int)) := fun hg => by
    have h1 := (hg1.trans hg).gheap hb0
    exact ⟨by rw [cell_block h1]; rfl, by rw [cell_block h1]; rfl, by rw [cell_block h1]; rfl⟩
  by_cases hlt : i < x.pgs.length
  · simp (maxSteps := 600000) (disch := omega) only [F13_L1, ↓sy1, sy2, sy3, readOK, sy5, sy6, Nat.reduceEqDiff, ↓reduceIte, sy7, sy8, sy9, sya, oneOf, syb, syc, Nat.reduceAdd, Nat.reduceMul, syd, sye, syf, syg, syh, reduceCtorEq, e4, e1, hc0 (Keep.refl _ _), hlen, Int.ofNat_lt, show i < x.pages.length from by omega, show ((i : Int) < 102) from by omega, decide_true]
    refine mk_rule elemB (kx := .i64) (ky := .i64) (a := 512) (c := 512) (by simp only [upd_at, Nat.reduceEqDiff, reduceIte, ev_tmp, ev_const, List.map_cons, List.map_nil]) (by simp only [upd_at, Nat.reduceEqDiff, reduceIte, ev_tmp, ev_const, List.map_cons, List.map_nil]) (by omega) (by omega) (by omega) (by omega) rfl ?_
    have hg2 : Grow w1 (w1.alloc (.cells (Array.replicate (512 : Int).toNat (.int .u8 0)) 5)) := (Keep.refl _ _).alloc _
    have ho2 := own_made w1 w1.heap.size (Nat.le_refl _) 5 (512 : Int).toNat (by decide) (.int .u8 0)
    generalize w1.alloc (.cells (Array.replicate (512 : Int).toNat (.int .u8 0)) 5) = w2 at hg2 ho2 ⊢
    rw [show (512 : Int).toNat = 512 from rfl] at ho2 ⊢
    generalize (Value.slice (some ⟨w1.heap.size, 0, none⟩) 512 512) = bv at ho2 ⊢
    simp (maxSteps := 600000) (disch := omega) only [↓sy1, sy2, sy3, readOK, sy5, sy6, Nat.reduceEqDiff, ↓reduceIte, sy7, sy8, sy9, sya, oneOf, syb, syc, Nat.reduceAdd, Nat.reduceMul, syd, sye, syf, syg, syh, reduceCtorEq, e4, e1]
    generalize hout : e 3 = out at hf1
    refine loop_rule (fun e w' => ∃ k : Nat, k ≤ 512 ∧ e 6 = .int .i64 k ∧ e 5 = bv ∧ e 4 = .int .i64 i ∧ e 1 = .pointer (some ⟨B, 0, none⟩) ∧ e 3 = out ∧ Grow w1 w' ∧
        w'.ownsRow w1.heap.size 5 1 bv 512 (List.replicate k (.int .u8 ((x.byteAt i).toNat : Int)) ++ List.replicate (512 - k) (.int .u8 0))) (fun e _ => 512 - (intOf (e 6)).toNat)
      ⟨0, by omega, by simp [upd, updO, ev], by simp [upd, updO, ev], by simp [upd, updO, ev, e4], by simp [upd, updO, ev, e1], by simp [upd, updO, ev, hout], hg2, ho2⟩ ?_
    rintro e w3 ⟨k, hk, e6, e5, e4, e1, e3, hg3, ho3⟩
    have hl5 : ∀ w', lenF w' 0 bv = some (.int .i64 512) := fun w' => by
      rw [Has.len (Has.own ho3), List.length_append, List.length_replicate, List.length_replicate, show k + (512 - k) = 512 from by omega]; rfl
    by_cases hk5 : k < 512
    · obtain ⟨a, w4, ha, hst, ho4, hk4, hbk⟩ := own_store ho3 hk5 (u := .int .u8 ((x.byteAt i).toNat : Int)) rfl
      rw [byteAt_val x i] at hst
      simp (maxSteps := 600000) (disch := omega) only [F13_L0, ↓sy1, sy2, sy3, readOK, sy5, sy6, Nat.reduceEqDiff, ↓reduceIte, sy7, sy8, sy9, sya, oneOf, syb, syc, Nat.reduceAdd, Nat.reduceMul, syd, sye, syf, syg, syh, reduceCtorEq, e6, e5, e4, e1, e3, hl5, show ((k : Int) < 512) from by omega, decide_true, hc0 hg3, ha, hst]
      have hgw : Grow w1 w4 := hg3.then hk4 (fun b hb h => by have := (World.ownsRow.lt ho3 b h).1; omega)
      refine R_out ⟨⟨k + 1, by omega, rfl, hgw, ?_⟩, by simp only [intOf]; omega⟩
      have : (List.replicate k (Value.int .u8 ((x.byteAt i).toNat : Int)) ++ List.replicate (512 - k) (Value.int .u8 0)).set k (Value.int .u8 ((x.byteAt i).toNat : Int)) = List.replicate (k + 1) (Value.int .u8 ((x.byteAt i).toNat : Int)) ++ List.replicate (512 - (k + 1)) (Value.int .u8 0) := by
        rw [List.set_append_right _ _ (by simp), List.length_replicate, Nat.sub_self, show 512 - k = (512 - (k + 1)) + 1 from by omega, List.replicate_succ, List.replicate_succ']
        simp
      rw [this] at ho4; exact ho4
    · have hke : k = 512 := by omega
      subst hke
      have hbs : List.replicate 512 (Value.int .u8 ((x.byteAt i).toNat : Int)) ++ List.replicate (512 - 512) (Value.int .u8 0) = bs (List.replicate 512 (x.byteAt i)) := by rw [Nat.sub_self, List.replicate_zero, List.append_nil, bs, List.map_replicate]
      rw [hbs] at ho3
      have hf3 := hf1.grow hg3
      obtain ⟨xs, h1, h2, h3, h4⟩ := hf3
      have hci : x.pages.getD i 0 = x.pages[i]'(by omega) := by simp [List.getD_eq_getElem?_getD, List.getElem?_eq_getElem (show i < x.pages.length by omega)]
      obtain ⟨a, ha, hac, _⟩ := (hpv.grow (hg0.trans (hg1.trans hg3))).getI (i := i) (by omega)
      rw [← hci] at hac
      have hpgi : x.pgs[i]'hlt = x.page i := by simp [Deed3.pgs]
      have htk : x.pgs.take (i + 1) = x.pgs.take i ++ [x.page i] := by rw [List.take_succ_eq_append_getElem hlt, hpgi]
      obtain ⟨u, hu, hcase⟩ : ∃ u, w3.ownsRow w1.heap.size 5 1 u (x.page i).2.length (bs (x.page i).2) ∧ ((x.short = true ∧ i = 0 ∧ slcF 1 bv none (some (.int .i64 511)) none = some u) ∨ (x.short = true ∧ ¬ ((i : Int) = 0) ∧ bv = u) ∨ (x.short = false ∧ bv = u)) := by
        by_cases hs : x.short = true ∧ i = 0
        · obtain ⟨u, hsl, hu⟩ := own_slcTo ho3 (m := 511) (by omega) (by omega)
          refine ⟨u, ?_, .inl ⟨hs.1, hs.2, hsl⟩⟩
          have h5 : (x.page i).2 = List.replicate 511 (x.byteAt i) := by simp only [Deed3.page]; rw [if_pos hs]
          rw [h5, List.length_replicate]
          have h6 : (bs (List.replicate 512 (x.byteAt i))).take 511 = bs (List.replicate 511 (x.byteAt i)) := by
            rw [bs, bs, ← List.map_take, List.take_replicate]; rfl
          rw [← h6]; exact hu
        · refine ⟨bv, ?_, by
            by_cases hsh : x.short = true
            · exact .inr (.inl ⟨hsh, fun hc => hs ⟨hsh, by omega⟩, rfl⟩)
            · exact .inr (.inr ⟨by simpa using hsh, rfl⟩)⟩
          have h5 : (x.page i).2 = List.replicate 512 (x.byteAt i) := by simp only [Deed3.page]; rw [if_neg hs]
          rw [h5, List.length_replicate]; exact ho3
      have huc := (Has.own hu).isCell
      have htl : (x.pgs.take i).length = i := by rw [List.length_take]; omega
      have h01 := hg1.size
      have h01' : w0.heap.size ≤ w1.heap.size := h01
      rw [htl] at h1
      have hgap : Grow w3 (w3.alloc (.cells #[.int .i64 (x.pages.getD i 0), u] 37)) := (Keep.refl _ _).alloc _
      have hnsz := hg3.size
      have hnil : ¬ (((512 : Nat) : Int) < 512) := by omega
      have fin : ∀ (out' : Value) (w5 : World), w5.ownsRow w0.heap.size 37 2 out' (i + 1) (xs ++ [.int .i64 (x.pages.getD i 0), u]) → (w3.alloc (.cells #[.int .i64 (x.pages.getD i 0), u] 37)).grownBy w5 out.ownBlock →
          ∃ j : Nat, j ≤ x.pgs.length ∧ (Value.int .i64 ((i : Int) + 1)) = .int .i64 j ∧ Grow w0 w5 ∧ FreshP w0.heap.size w5 out' (x.pgs.take j) := by
        intro out' w5 ho5 hg5
        have hk5 : Keep (fun b => some b = out.ownBlock) w3 w5 := (Keep.grow hgap).trans (Keep.grown hg5)
        have hne : ∀ {B' n : Nat} {u' : Value} {ys : List Value}, w3.ownsRow B' 5 1 u' n ys → ∀ b, u'.ownBlock = some b → ¬ (some b = out.ownBlock) := fun {B' n u' ys} hu' b hb hc => own_ne hu' h1 (by decide) hb hc.symm
        have hgw : Grow w0 w5 := (hg1.trans hg3).then hk5 (fun b hb hc => by have := (World.ownsRow.lt h1 b hc.symm).1; omega)
        refine ⟨i + 1, by omega, rfl, hgw, xs ++ [.int .i64 (x.pages.getD i 0), u], ?_, ?_, ?_, fun j hj => ?_⟩
        · rw [htk, List.length_append, htl]; exact ho5
        · rw [htk, List.length_append, List.length_append, h2, htl]; simp; omega
        · intro y hy
          rcases List.mem_append.1 hy with hy | hy
          · exact h3 y hy
          · simp at hy
            rcases hy with rfl | rfl
            · rfl
            · exact huc
        · have hjl : j < i + 1 := by rw [htk, List.length_append, htl] at hj; simpa using hj
          have hxl : xs.length = 2 * i := by rw [h2, htl]
          by_cases hji : j < i
          · obtain ⟨h5, u', h6, h7⟩ := h4 j (by rw [htl]; exact hji)
            have hg1 : (x.pgs.take (i + 1))[j] = (x.pgs.take i)[j]'(by rw [htl]; exact hji) := by simp
            rw [hg1, List.getElem?_append_left (by omega), List.getElem?_append_left (by omega)]
            exact ⟨h5, u', h6, own_keep h7 hk5 (hne h7)⟩
          · have hje : j = i := by omega
            subst hje
            have hg1 : (x.pgs.take (j + 1))[j] = x.page j := by simp [Deed3.pgs]
            rw [hg1, List.getElem?_append_right (by omega), List.getElem?_append_right (by omega), show 2 * j - xs.length = 0 from by omega, show 2 * j + 1 - xs.length = 1 from by omega]
            exact ⟨rfl, u, rfl, own_keep (own_base hu (by assumption)) hk5 (hne hu)⟩
      rcases hcase with ⟨hs, hi0, hsl⟩ | ⟨hs, hi0, rfl⟩ | ⟨hs, rfl⟩
      · simp (maxSteps := 600000) (disch := omega) only [F13_L0, ↓sy1, sy2, sy3, readOK, sy5, sy6, Nat.reduceEqDiff, ↓reduceIte, sy7, sy8, sy9, sya, oneOf, syb, syc, Nat.reduceAdd, Nat.reduceMul, syd, sye, syf, syg, syh, reduceCtorEq, e6, e5, e4, e1, e3, hl5, hnil, decide_true, decide_false, hc0 hg3, hs, show ((i : Int) = 0) = True from by simp [hi0], hsl, ha, hac, fill_gen, fillF_2 (a := .int .i64 0) (b := .slice none 0 0) (u := .int .i64 (x.pages.getD i 0)) rfl huc, fill_of2, fillF_p (a := .int .i64 0) (b := .slice none 0 0)]
        refine app_own elemPg (by simp only [upd_at, Nat.reduceEqDiff, reduceIte, ev_tmp, ev_const, List.map_cons, List.map_nil, e3]) (by simp only [upd_at, Nat.reduceEqDiff, reduceIte, ev_tmp, ev_const, List.map_cons, List.map_nil]) (own_keepk h1 hgap (fun _ _ => id)) Has.newp (m := 1) rfl (by simpa [isCell] using huc) (by omega) (by omega) (by have := hgap.size; omega) ?_
        intro out' w5 ho5 hg5
        simp (maxSteps := 600000) (disch := omega) only [↓sy1, sy2, sy3, readOK, sy5, sy6, Nat.reduceEqDiff, ↓reduceIte, sy7, sy8, sy9, sya, oneOf, syb, syc, Nat.reduceAdd, Nat.reduceMul, syd, sye, syf, syg, syh, reduceCtorEq, e6, e5, e4, e1, e3]
        refine R_out ⟨?_, ?_⟩
        · exact fin out' w5 ho5 hg5
        · simp only [intOf]; omega
      · simp (maxSteps := 600000) (disch := omega) only [F13_L0, ↓sy1, sy2, sy3, readOK, sy5, sy6, Nat.reduceEqDiff, ↓reduceIte, sy7, sy8, sy9, sya, oneOf, syb, syc, Nat.reduceAdd, Nat.reduceMul, syd, sye, syf, syg, syh, reduceCtorEq, e6, e5, e4, e1, e3, hl5, hnil, decide_true, decide_false, hc0 hg3, hs, hi0, ha, hac, fill_gen, fillF_2 (a := .int .i64 0) (b := .slice none 0 0) (u := .int .i64 (x.pages.getD i 0)) rfl huc, fill_of2, fillF_p (a := .int .i64 0) (b := .slice none 0 0)]
        refine app_own elemPg (by simp only [upd_at, Nat.reduceEqDiff, reduceIte, ev_tmp, ev_const, List.map_cons, List.map_nil, e3]) (by simp only [upd_at, Nat.reduceEqDiff, reduceIte, ev_tmp, ev_const, List.map_cons, List.map_nil]) (own_keepk h1 hgap (fun _ _ => id)) Has.newp (m := 1) rfl (by simpa [isCell] using huc) (by omega) (by omega) (by have := hgap.size; omega) ?_
        intro out' w5 ho5 hg5
        simp (maxSteps := 600000) (disch := omega) only [↓sy1, sy2, sy3, readOK, sy5, sy6, Nat.reduceEqDiff, ↓reduceIte, sy7, sy8, sy9, sya, oneOf, syb, syc, Nat.reduceAdd, Nat.reduceMul, syd, sye, syf, syg, syh, reduceCtorEq, e6, e5, e4, e1, e3]
        refine R_out ⟨?_, ?_⟩
        · exact fin out' w5 ho5 hg5
        · simp only [intOf]; omega
      · simp (maxSteps := 600000) (disch := omega) only [F13_L0, ↓sy1, sy2, sy3, readOK, sy5, sy6, Nat.reduceEqDiff, ↓reduceIte, sy7, sy8, sy9, sya, oneOf, syb, syc, Nat.reduceAdd, Nat.reduceMul, syd, sye, syf, syg, syh, reduceCtorEq, e6, e5, e4, e1, e3, hl5, hnil, decide_true, decide_false, hc0 hg3, hs, ha, hac, fill_gen, fillF_2 (a := .int .i64 0) (b := .slice none 0 0) (u := .int .i64 (x.pages.getD i 0)) rfl huc, fill_of2, fillF_p (a := .int .i64 0) (b := .slice none 0 0)]
        refine app_own elemPg (by simp only [upd_at, Nat.reduceEqDiff, reduceIte, ev_tmp, ev_const, List.map_cons, List.map_nil, e3]) (by simp only [upd_at, Nat.reduceEqDiff, reduceIte, ev_tmp, ev_const, List.map_cons, List.map_nil]) (own_keepk h1 hgap (fun _ _ => id)) Has.newp (m := 1) rfl (by simpa [isCell] using huc) (by omega) (by omega) (by have := hgap.size; omega) ?_
        intro out' w5 ho5 hg5
        simp (maxSteps := 600000) (disch := omega) only [↓sy1, sy2, sy3, readOK, sy5, sy6, Nat.reduceEqDiff, ↓reduceIte, sy7, sy8, sy9, sya, oneOf, syb, syc, Nat.reduceAdd, Nat.reduceMul, syd, sye, syf, syg, syh, reduceCtorEq, e6, e5, e4, e1, e3]
        refine R_out ⟨?_, ?_⟩
        · exact fin out' w5 ho5 hg5
        · simp only [intOf]; omega
  · have hie : i = x.pgs.length := by omega
    rw [hie, List.take_length] at hf1
    by_cases h1 : i < x.pages.length
    · simp (maxSteps := 600000) (disch := omega) only [F13_L1, ↓sy1, sy2, sy3, readOK, sy5, sy6, Nat.reduceEqDiff, ↓reduceIte, sy7, sy8, sy9, sya, oneOf, syb, syc, Nat.reduceAdd, Nat.reduceMul, syd, sye, syf, syg, syh, reduceCtorEq, e4, e1, hc0 (Keep.refl _ _), hlen, Int.ofNat_lt, h1, show ¬ ((i : Int) < 102) from by omega, decide_true, decide_false]
      exact R_out ⟨hf1.base (by omega), hg0.trans hg1⟩
    · simp (maxSteps := 600000) (disch := omega) only [F13_L1, ↓sy1, sy2, sy3, readOK, sy5, sy6, Nat.reduceEqDiff, ↓reduceIte, sy7, sy8, sy9, sya, oneOf, syb, syc, Nat.reduceAdd, Nat.reduceMul, syd, sye, syf, syg, syh, reduceCtorEq, e4, e1, hc0 (Keep.refl _ _), hlen, Int.ofNat_lt, h1, decide_true, decide_false, false_implies]
      exact R_out ⟨hf1.base (by omega), hg0.trans hg1⟩
end Go.Proofs.Ytneehlkofcdhoaa
