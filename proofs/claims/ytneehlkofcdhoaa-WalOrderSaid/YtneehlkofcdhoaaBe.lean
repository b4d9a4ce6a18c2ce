/- bytes.Equal, slices.EqualFunc; two disks that are read alike. -/
import Derived.Test.YtneehlkofcdhoaaWn
import Derived.Laws.BytesString
import Derived.Laws.Strings
namespace Go.Proofs.Ytneehlkofcdhoaa
open Go
set_option linter.unusedSimpArgs false
open Go.RowKit (intOf)
def strOf (l : List UInt8) : ByteArray := ⟨l.toArray⟩
theorem strOf_list (l : List UInt8) : (strOf l).toList = l := by rw [ByteArray.toList_eq]; simp [strOf]
theorem strOf_fold : ∀ (l : List UInt8) (r : ByteArray), (l.map fun b => (b.toNat : Int)).foldl (fun (r : ByteArray) (n : Int) => r.push (UInt8.ofNat n.toNat)) r = ⟨r.data ++ l.toArray⟩
  | [], r => by simp
  | b :: l, r => by
    rw [List.map_cons, List.foldl_cons, strOf_fold l]
    simp [ByteArray.push]
section
variable {P : Program} {k : Kont} {e : Env} {w : World} {l : List GOp} {d : Option Nat}
theorem conv_rule {x : Operand} {src dst el ty : TypeId} {v : Value} {b : List UInt8} (hx : ev e x = v) (hv : HasB w v b) (hs : P.underlying src = some (.slice el)) (he : P.underlying el = some (.int .u8)) (hd : P.underlying dst = some .string)
    (h : R (symOps P l k (updO e d (.string (strOf b))) w)) : R (symOps P (⟨d, .hard (H (.convert src dst x) ty), none⟩ :: l) k e w) := by
  have hr : (convert src dst v).run P w = .ok (.string (strOf b)) w := by
    rcases hv with ⟨bb, o, n, c, rfl, h1, h2, h3⟩ | ⟨h1, rfl⟩
    · rw [run_convert_bytes_string w src dst el _ _ _ hs he hd]
      have hn : n = (bs b).length := by omega
      subst hn
      have hl := run_loadCells_list (P := P) w ⟨bb, o, none⟩ (bs b) (fun j u hj => by rw [add_lit]; exact h3 j u hj)
      rw [run_bytesToString w ⟨bb, o, none⟩ _ c (b.map fun x => (x.toNat : Int)) (by rw [hl]; simp [bs, Function.comp_def]), strOf_fold]
      simp [strOf]
    · have hb : b = [] := by simpa [bs] using h1
      subst hb
      rw [run_convert_bytes_string w src dst el _ _ _ hs he hd]
      simp [Conv.bytesToString, Sem.run_pure]; rfl
  exact hard_rule (by simp only [execOp, H, hx, Sem.run_bind, Sem.run_pure, hr, Result.andThen_ok]) h
theorem streq_rule {x y : Operand} {t rt ty : TypeId} {a b : List UInt8} (hx : ev e x = .string (strOf a)) (hy : ev e y = .string (strOf b)) (h : R (symOps P l k (updO e d (.bool (decide (a = b)))) w)) :
    R (symOps P (⟨d, .hard (H (.binOp .eql t x y rt) ty), none⟩ :: l) k e w) := by
  have hr : (binOp .eql t (.string (strOf a)) (.string (strOf b))).run P w = .ok (.bool (decide (a = b))) w := by
    rw [binOp_string_eql, strOf_list, strOf_list, Sem.run_pure]
    congr 2
    by_cases h : a = b <;> simp [h]
  have hgd : eqGuard .eql t x y (.string (strOf a)) (.string (strOf b)) = pure () := rfl
  exact hard_rule (by simp only [execOp, H, hx, hy, hgd, Sem.run_bind, Sem.run_pure, hr, Result.andThen_ok]) h
end
theorem bytesEqual_spec {w : World} {u v : Value} {a b : List UInt8} (ha : HasB w u a) (hb : HasB w v b) :
    Calls Try.prog 54 #[u, v] w (Ret fun r w' => r = .bool (decide (a = b)) ∧ w' = w) := by
  have hs : Try.prog.underlying 28 = some (.slice 5) := by kernel_rfl
  have he : Try.prog.underlying 5 = some (.int .u8) := by kernel_rfl
  have hd : Try.prog.underlying 9 = some .string := by kernel_rfl
  apply enter54
  apply R_in
  simp (maxSteps := 600000) (disch := omega) only [F54, ↓sy1, sy2, sy3, readOK, sy5, sy6, Nat.reduceEqDiff, ↓reduceIte, sy7, sy8, sy9, sya, oneOf, syb, syc, Nat.reduceAdd, Nat.reduceMul, syd, sye, syf, syg, syh, reduceCtorEq]
  refine conv_rule (by simp only [upd_at, Nat.reduceEqDiff, reduceIte, ev_tmp, ev_const, List.map_cons, List.map_nil]) ha hs he hd ?_
  simp (maxSteps := 600000) (disch := omega) only [↓sy1, sy2, sy3, readOK, sy5, sy6, Nat.reduceEqDiff, ↓reduceIte, sy7, sy8, sy9, sya, oneOf, syb, syc, Nat.reduceAdd, Nat.reduceMul, syd, sye, syf, syg, syh, reduceCtorEq]
  refine conv_rule (by simp only [upd_at, Nat.reduceEqDiff, reduceIte, ev_tmp, ev_const, List.map_cons, List.map_nil]) hb hs he hd ?_
  simp (maxSteps := 600000) (disch := omega) only [↓sy1, sy2, sy3, readOK, sy5, sy6, Nat.reduceEqDiff, ↓reduceIte, sy7, sy8, sy9, sya, oneOf, syb, syc, Nat.reduceAdd, Nat.reduceMul, syd, sye, syf, syg, syh, reduceCtorEq]
  refine streq_rule (a := a) (b := b) (by simp only [upd_at, Nat.reduceEqDiff, reduceIte, ev_tmp, ev_const, List.map_cons, List.map_nil]) (by simp only [upd_at, Nat.reduceEqDiff, reduceIte, ev_tmp, ev_const, List.map_cons, List.map_nil]) ?_
  simp (maxSteps := 600000) (disch := omega) only [↓sy1, sy2, sy3, readOK, sy5, sy6, Nat.reduceEqDiff, ↓reduceIte, sy7, sy8, sy9, sya, oneOf, syb, syc, Nat.reduceAdd, Nat.reduceMul, syd, sye, syf, syg, syh, reduceCtorEq]
  exact R_out trivial
theorem equalFunc_spec {w : World} {u v : Value} {x y : List (List UInt8)} (ha : HasR w u x) (hb : HasR w v y) (hl : x.length ≤ 140737488355328) :
    Calls Try.prog 52 #[u, v, .func (.func 54) #[] #[]] w (Ret fun r w' => r = .bool (decide (x = y)) ∧ w' = w) := by
  have hcl : callable Try.prog 54 = true := by kernel_rfl
  apply enter52
  apply R_in
  by_cases hlen : x.length = y.length
  · simp (maxSteps := 600000) (disch := omega) only [F52, ↓sy1, sy2, sy3, readOK, sy5, sy6, Nat.reduceEqDiff, ↓reduceIte, sy7, sy8, sy9, sya, oneOf, syb, syc, Nat.reduceAdd, Nat.reduceMul, syd, sye, syf, syg, syh, reduceCtorEq, ha.len, hb.len, show ((x.length : Int) = (y.length : Int)) from by omega, decide_true]
    refine loop_rule (fun e w' => ∃ i : Nat, i ≤ x.length ∧ e 17 = .int .i64 i ∧ e 16 = .int .i64 x.length ∧ e 15 = u ∧ e 1 = v ∧ e 2 = .func (.func 54) #[] #[] ∧ x.take i = y.take i ∧ w' = w) (fun e _ => x.length - (intOf (e 17)).toNat)
      ⟨0, by omega, by simp [upd, updO, ev], by simp [upd, updO, ev, hlen], by simp [upd, updO, ev], by simp [upd, updO, ev], by simp [upd, updO, ev], rfl, rfl⟩ ?_
    rintro e w' ⟨i, hi, e17, e16, e15, e1, e2, htk, rfl⟩
    by_cases hlt : i < x.length
    · obtain ⟨p, xu, hp, hpc, hxu⟩ := ha.get hlt
      obtain ⟨q, yu, hq, hqc, hyu⟩ := hb.get (i := i) (by omega)
      simp (maxSteps := 600000) (disch := omega) only [F52_L0, ↓sy1, sy2, sy3, readOK, sy5, sy6, Nat.reduceEqDiff, ↓reduceIte, sy7, sy8, sy9, sya, oneOf, syb, syc, Nat.reduceAdd, Nat.reduceMul, syd, sye, syf, syg, syh, reduceCtorEq, e17, e16, e15, e1, e2, Int.ofNat_lt, hlt, decide_true, hp, hpc, hq, hqc]
      refine fval_rule hcl (by simp only [upd_at, Nat.reduceEqDiff, reduceIte, ev_tmp, ev_const, List.map_cons, List.map_nil, e2]) (vs := [xu, yu]) (by simp only [upd_at, Nat.reduceEqDiff, reduceIte, ev_tmp, ev_const, List.map_cons, List.map_nil]) (bytesEqual_spec hxu hyu) ?_
      rintro _ w2 ⟨rfl, rfl⟩
      by_cases heq : x[i] = y[i]'(by omega)
      · simp (maxSteps := 600000) (disch := omega) only [↓sy1, sy2, sy3, readOK, sy5, sy6, Nat.reduceEqDiff, ↓reduceIte, sy7, sy8, sy9, sya, oneOf, syb, syc, Nat.reduceAdd, Nat.reduceMul, syd, sye, syf, syg, syh, reduceCtorEq, e17, e16, e15, e1, e2, heq, decide_true]
        refine R_out ⟨⟨i + 1, by omega, rfl, take_succ_eq hlt (by omega) htk heq⟩, ?_⟩
        simp only [intOf]; omega
      · simp (maxSteps := 600000) (disch := omega) only [↓sy1, sy2, sy3, readOK, sy5, sy6, Nat.reduceEqDiff, ↓reduceIte, sy7, sy8, sy9, sya, oneOf, syb, syc, Nat.reduceAdd, Nat.reduceMul, syd, sye, syf, syg, syh, reduceCtorEq, e17, e16, e15, e1, e2, heq, decide_false]
        exact R_out (by simp [take_ne hlt (by omega) heq])
    · simp (maxSteps := 600000) (disch := omega) only [F52_L0, ↓sy1, sy2, sy3, readOK, sy5, sy6, Nat.reduceEqDiff, ↓reduceIte, sy7, sy8, sy9, sya, oneOf, syb, syc, Nat.reduceAdd, Nat.reduceMul, syd, sye, syf, syg, syh, reduceCtorEq, e17, e16, e15, e1, e2, Int.ofNat_lt, hlt, decide_false]
      have hie : i = x.length := by omega
      subst hie
      rw [List.take_length, hlen, List.take_length] at htk
      exact R_out (by simp [htk])
  · have hne : x ≠ y := fun h => hlen (by rw [h])
    simp (maxSteps := 600000) (disch := omega) only [F52, ↓sy1, sy2, sy3, readOK, sy5, sy6, Nat.reduceEqDiff, ↓reduceIte, sy7, sy8, sy9, sya, oneOf, syb, syc, Nat.reduceAdd, Nat.reduceMul, syd, sye, syf, syg, syh, reduceCtorEq, ha.len, hb.len, show ¬ ((x.length : Int) = (y.length : Int)) from by omega, decide_false]
    exact R_out (by simp [hne])
theorem same_spec {G G' : Gh} {κ κ' : Nat} {w : World} {p q : Nat} {D E : Dsk} (h : DiskAt G κ w p D) (h' : DiskAt G' κ' w q E) :
    Calls Try.prog 25 #[.pointer (some ⟨p, 0, none⟩), .pointer (some ⟨q, 0, none⟩)] w (Ret fun v w' => v = .bool (decide (D.image = E.image)) ∧ Grow w w') := by
  apply enter25
  apply R_in
  simp (maxSteps := 600000) (disch := omega) only [F25, ↓sy1, sy2, sy3, readOK, sy5, sy6, Nat.reduceEqDiff, ↓reduceIte, sy7, sy8, sy9, sya, oneOf, syb, syc, Nat.reduceAdd, Nat.reduceMul, syd, sye, syf, syg, syh, reduceCtorEq]
  refine call0 (image_spec h) ?_
  rintro u w1 ⟨hu, hg1⟩
  simp (maxSteps := 600000) (disch := omega) only [↓sy1, sy2, sy3, readOK, sy5, sy6, Nat.reduceEqDiff, ↓reduceIte, sy7, sy8, sy9, sya, oneOf, syb, syc, Nat.reduceAdd, Nat.reduceMul, syd, sye, syf, syg, syh, reduceCtorEq]
  refine call0 (image_spec (h'.grow hg1)) ?_
  rintro v w2 ⟨hv, hg2⟩
  simp (maxSteps := 600000) (disch := omega) only [↓sy1, sy2, sy3, readOK, sy5, sy6, Nat.reduceEqDiff, ↓reduceIte, sy7, sy8, sy9, sya, oneOf, syb, syc, Nat.reduceAdd, Nat.reduceMul, syd, sye, syf, syg, syh, reduceCtorEq]
  have hm := h.ok.most
  refine call0 (equalFunc_spec ((hu.grow hg2).has) hv.has (by rw [D.image_length]; omega)) ?_
  rintro _ w3 ⟨rfl, rfl⟩
  simp (maxSteps := 600000) (disch := omega) only [↓sy1, sy2, sy3, readOK, sy5, sy6, Nat.reduceEqDiff, ↓reduceIte, sy7, sy8, sy9, sya, oneOf, syb, syc, Nat.reduceAdd, Nat.reduceMul, syd, sye, syf, syg, syh, reduceCtorEq]
  exact R_out (hg1.trans hg2)
end Go.Proofs.Ytneehlkofcdhoaa
