/- A deed's bytes; and what must be whatever is asked. -/
import Derived.Test.YtaeejceljgjdkaaCr
namespace Go.Proofs.Ytaeejceljgjdkaa
open Go
set_option linter.unusedSimpArgs false
open Go.RowKit (intOf)
structure Deed where
  fl : Bool
  n : Int
  len : Int
  b : UInt8
def Deed.val (x : Deed) : Value := .agg #[.bool x.fl, .int .i64 x.n, .int .i64 x.len, .int .u8 (x.b.toNat : Int)]
def Deed.size (x : Deed) : Nat := if x.len < 0 ∨ 600 < x.len then 512 else x.len.toNat
def Deed.bytes (x : Deed) : List UInt8 := List.replicate x.size x.b
theorem Deed.bytes_length (x : Deed) : x.bytes.length = x.size := List.length_replicate
theorem Deed.size_le (x : Deed) : x.size ≤ 600 := by unfold Deed.size; split <;> omega
theorem bytes_spec (x : Deed) (w : World) : Calls Try.prog 22 #[x.val] w (Ret fun v w' => w'.ownsRow w.heap.size 5 1 v x.size (bs x.bytes) ∧ Grow w w') := by
  have hle := x.size_le
  apply enter22
  apply R_in
  simp (disch := omega) only [F22, ↓sy1, sy2, sy3, readOK, implies_true, forall_const, Nat.reduceEqDiff, ↓reduceIte, Option.map_some, Option.map_none, List.map_cons, List.map_nil, oneOf, if_true, if_false, Nat.reduceAdd, Nat.reduceMul, Option.isNone_some, Option.isNone_none, List.getElem?_toArray, List.getElem?_cons_zero, List.getElem?_cons_succ, reduceCtorEq, Deed.val]
  have hg0 : Grow w (w.alloc (.cells (Value.agg #[.bool x.fl, .int .i64 x.n, .int .i64 x.len, .int .u8 (x.b.toNat : Int)]).cells 43)) := (Keep.refl _ _).alloc _
  have hr0 := heap_alloc_new w (.cells (Value.agg #[.bool x.fl, .int .i64 x.n, .int .i64 x.len, .int .u8 (x.b.toNat : Int)]).cells 43)
  have hrl : w.heap.size < (w.alloc (.cells (Value.agg #[.bool x.fl, .int .i64 x.n, .int .i64 x.len, .int .u8 (x.b.toNat : Int)]).cells 43)).heap.size := by simp
  generalize w.alloc (.cells (Value.agg #[.bool x.fl, .int .i64 x.n, .int .i64 x.len, .int .u8 (x.b.toNat : Int)]).cells 43) = w0 at hg0 hr0 hrl ⊢
  generalize hrr : w.heap.size = r at hr0 hrl ⊢
  have hc2 : w0.cell? ⟨r, 2, none⟩ = some (.int .i64 x.len) := by rw [cell_block hr0]; rfl
  have hc3 : w0.cell? ⟨r, 3, none⟩ = some (.int .u8 (x.b.toNat : Int)) := by rw [cell_block hr0]; rfl
  have tail : ∀ e : Env, e 1 = .pointer (some ⟨r, 0, none⟩) → e 3 = .int .i64 x.size → e 14 = .int .i64 x.size →
      R (symOps Try.prog [⟨(some 15), (.hard (H (.makeSlice 37 (.tmp 14) (.tmp 14)) 37)), none⟩, ⟨(some 4), (.mv (.tmp 15)), none⟩]
        ⟨symS 27 Try.prog (.seq (.seq (.ops [⟨(some 5), (.mv (.const (.int .i64 0))), none⟩]) (.block 0 (.loop F22_L0))) (.seq (.ops [⟨(some 26), (.mv (.tmp 4)), none⟩, ⟨(some 2), (.mv (.tmp 26)), none⟩]) .ret))
          ⟨fun e w' => w'.ownsRow r 5 1 (e 2) x.size (bs x.bytes) ∧ Grow w w', fun _ _ _ => False, fun e w' => w'.ownsRow r 5 1 (e 2) x.size (bs x.bytes) ∧ Grow w w', NoPanic⟩,
         fun _ _ _ => False, fun e w' => w'.ownsRow r 5 1 (e 2) x.size (bs x.bytes) ∧ Grow w w', NoPanic⟩ e w0) := by
    intro e e1 e3 e14
    refine mk_rule elemB (kx := .i64) (ky := .i64) (a := x.size) (c := x.size) (by simp only [upd_at, Nat.reduceEqDiff, reduceIte, ev_tmp, ev_const, List.map_cons, List.map_nil, e14]) (by simp only [upd_at, Nat.reduceEqDiff, reduceIte, ev_tmp, ev_const, List.map_cons, List.map_nil, e14]) (by omega) (by omega) (by omega) (by omega) rfl ?_
    have hg1 : Grow w (w0.alloc (.cells (Array.replicate (x.size : Int).toNat (.int .u8 0)) 5)) := hg0.trans ((Keep.refl _ _).alloc _)
    have hr1 := Keep.gheap ((Keep.refl _ _).alloc (.cells (Array.replicate (x.size : Int).toNat (.int .u8 0)) 5)) hr0
    have ho1 := own_made w0 w0.heap.size (Nat.le_refl _) 5 (x.size : Int).toNat (by simp; omega) (.int .u8 0)
    generalize w0.alloc (.cells (Array.replicate (x.size : Int).toNat (.int .u8 0)) 5) = w1 at hg1 hr1 ho1 ⊢
    simp only [Int.toNat_natCast] at ho1 ⊢
    generalize (Value.slice (some ⟨w0.heap.size, 0, none⟩) x.size x.size) = out at ho1 ⊢
    simp (disch := omega) only [↓sy1, sy2, sy3, readOK, implies_true, forall_const, Nat.reduceEqDiff, ↓reduceIte, Option.map_some, Option.map_none, List.map_cons, List.map_nil, oneOf, if_true, if_false, Nat.reduceAdd, Nat.reduceMul, Option.isNone_some, Option.isNone_none, List.getElem?_toArray, List.getElem?_cons_zero, List.getElem?_cons_succ, reduceCtorEq, e3, e1]
    refine loop_rule (fun e w' => ∃ i : Nat, i ≤ x.size ∧ e 5 = .int .i64 i ∧ e 3 = .int .i64 x.size ∧ e 1 = .pointer (some ⟨r, 0, none⟩) ∧ e 4 = out ∧ Grow w w' ∧ w'.heap[r]? = w0.heap[r]? ∧
        w'.ownsRow w0.heap.size 5 1 out x.size (List.replicate i (.int .u8 (x.b.toNat : Int)) ++ List.replicate (x.size - i) (.int .u8 0))) (fun e _ => x.size - (intOf (e 5)).toNat)
      ⟨0, by omega, by simp [upd], by simp [upd, e3], by simp [upd, e1], by simp [upd], hg1, hr1.trans hr0.symm, by simpa using ho1⟩ ?_
    rintro e w2 ⟨i, hi, e5, e3, e1, e4, hg2, hr2, ho2⟩
    by_cases hlt : i < x.size
    · have hc32 : w2.cell? ⟨r, 3, none⟩ = some (.int .u8 (x.b.toNat : Int)) := by rw [cell_block (hr2.trans hr0)]; rfl
      obtain ⟨a, w3, ha, hst, ho3, hk3, hbk⟩ := own_store ho2 hlt (u := .int .u8 (x.b.toNat : Int)) rfl
      simp (disch := omega) only [F22_L0, ↓sy1, sy2, sy3, readOK, implies_true, forall_const, Nat.reduceEqDiff, ↓reduceIte, Option.map_some, Option.map_none, List.map_cons, List.map_nil, oneOf, if_true, if_false, Nat.reduceAdd, Nat.reduceMul, Option.isNone_some, Option.isNone_none, List.getElem?_toArray, List.getElem?_cons_zero, List.getElem?_cons_succ, reduceCtorEq, e5, e3, e1, e4, Int.ofNat_lt, hlt, decide_true, hc32, ha, hst]
      have hob := fun b hb => (World.ownsRow.lt ho2 b hb).1
      have hgw : Grow w w3 := hg2.then hk3 (fun b hb h => by have := hob b h; omega)
      refine R_out ⟨⟨i + 1, by omega, rfl, hgw, (hk3.blk r (Array.getElem?_eq_some_iff.1 (hr2.trans hr0)).1 (fun hc => by have := hob r hc; omega)).trans hr2, ?_⟩, by simp only [intOf]; omega⟩
      have : (List.replicate i (Value.int .u8 (x.b.toNat : Int)) ++ List.replicate (x.size - i) (Value.int .u8 0)).set i (Value.int .u8 (x.b.toNat : Int)) = List.replicate (i + 1) (Value.int .u8 (x.b.toNat : Int)) ++ List.replicate (x.size - (i + 1)) (Value.int .u8 0) := by
        rw [List.set_append_right _ _ (by simp), List.length_replicate, Nat.sub_self, show x.size - i = (x.size - (i + 1)) + 1 from by omega, List.replicate_succ, List.replicate_succ']
        simp
      rw [this] at ho3; exact ho3
    · have hie : i = x.size := by omega
      simp (disch := omega) only [F22_L0, ↓sy1, sy2, sy3, readOK, implies_true, forall_const, Nat.reduceEqDiff, ↓reduceIte, Option.map_some, Option.map_none, List.map_cons, List.map_nil, oneOf, if_true, if_false, Nat.reduceAdd, Nat.reduceMul, Option.isNone_some, Option.isNone_none, List.getElem?_toArray, List.getElem?_cons_zero, List.getElem?_cons_succ, reduceCtorEq, e5, e3, e1, e4, Int.ofNat_lt, hlt, decide_false]
      refine R_out ⟨?_, hg2⟩
      rw [hie] at ho2
      have hbb : bs x.bytes = List.replicate x.size (.int .u8 (x.b.toNat : Int)) := by simp [bs, Deed.bytes, List.map_replicate]
      rw [hbb]
      exact own_base (by simpa using ho2) (by omega)
  by_cases h1 : x.len < 0
  · simp (disch := omega) only [↓sy1, sy2, sy3, readOK, implies_true, forall_const, Nat.reduceEqDiff, ↓reduceIte, Option.map_some, Option.map_none, List.map_cons, List.map_nil, oneOf, if_true, if_false, Nat.reduceAdd, Nat.reduceMul, Option.isNone_some, Option.isNone_none, List.getElem?_toArray, List.getElem?_cons_zero, List.getElem?_cons_succ, reduceCtorEq, hc2, h1, decide_true]
    exact tail _ (by simp [upd]) (by simp [upd, Deed.size, h1]) (by simp [upd, Deed.size, h1])
  · by_cases h2 : 600 < x.len
    · simp (disch := omega) only [↓sy1, sy2, sy3, readOK, implies_true, forall_const, Nat.reduceEqDiff, ↓reduceIte, Option.map_some, Option.map_none, List.map_cons, List.map_nil, oneOf, if_true, if_false, Nat.reduceAdd, Nat.reduceMul, Option.isNone_some, Option.isNone_none, List.getElem?_toArray, List.getElem?_cons_zero, List.getElem?_cons_succ, reduceCtorEq, hc2, h1, h2, decide_true, decide_false]
      exact tail _ (by simp [upd]) (by simp [upd, Deed.size, h2]) (by simp [upd, Deed.size, h2])
    · simp (disch := omega) only [↓sy1, sy2, sy3, readOK, implies_true, forall_const, Nat.reduceEqDiff, ↓reduceIte, Option.map_some, Option.map_none, List.map_cons, List.map_nil, oneOf, if_true, if_false, Nat.reduceAdd, Nat.reduceMul, Option.isNone_some, Option.isNone_none, List.getElem?_toArray, List.getElem?_cons_zero, List.getElem?_cons_succ, reduceCtorEq, hc2, h1, h2, decide_false]
      exact tail _ (by simp [upd]) (by simp [upd, Deed.size, h1, h2]; omega) (by simp [upd, Deed.size, h1, h2]; omega)
end Go.Proofs.Ytaeejceljgjdkaa
