/- Texts of one claim, put together in their order: what each proves stands ahead of it. -/
import Derived.Test.YtgmodahpcpepjaaMd
import Derived.Laws.BytesString
import Derived.Laws.Strings
import Derived.Test.YtgmodahpcpepjaaMe
import Derived.Test.YtgmodahpcpepjaaMc
import Derived.Carry
import Derived.Deep.Slices
import Derived.Lib.SmallJoins
import Derived.OpenShut
/- bytes.Equal, slices.EqualFunc; two disks that are read alike. -/
namespace Go.Proofs.Ytgmodahpcpepjaa
open Go
set_option linter.unusedSimpArgs false
open Go.RowKit (intOf)
def strOf (l : List UInt8) : ByteArray := ⟨l.toArray⟩
theorem strOf_list (l : List UInt8) : (strOf l).toList = l := by rw [ByteArray.toList_eq]; simp [strOf]
theorem strOf_fold : ∀ (l : List UInt8) (r : ByteArray), (l.map fun b => (b.toNat : Int)).foldl (fun (r : ByteArray) (n : Int) => r.push (UInt8.ofNat n.toNat)) r = ⟨r.data ++ l.toArray⟩
  | [], r => by simp
  | b :: l, r => by
    rw [List.map_cons, List.foldl_cons, strOf_fold l]
    simp [ByteArray.push]
section
variable {P : Program} {k : Kont} {e : Env} {w : World} {l : List GOp} {d : Option Nat}
theorem conv_rule {x : Operand} {src dst el ty : TypeId} {v : Value} {b : List UInt8} (hx : ev e x = v) (hv : HasB w v b) (hs : P.underlying src = some (.slice el)) (he : P.underlying el = some (.int .u8)) (hd : P.underlying dst = some .string)
    (h : R (symOps P l k (updO e d (.string (strOf b))) w)) : R (symOps P (⟨d, .hard (H (.convert src dst x) ty), none⟩ :: l) k e w) := by
  have hr : (convert src dst v).run P w = .ok (.string (strOf b)) w := by
    rcases hv with ⟨bb, o, n, c, rfl, h1, h2, h3⟩ | ⟨h1, rfl⟩
    · rw [run_convert_bytes_string w src dst el _ _ _ hs he hd]
      have hn : n = (bs b).length := by omega
      subst hn
      have hl := run_loadCells_list (P := P) w ⟨bb, o, none⟩ (bs b) (fun j u hj => by rw [add_lit]; exact h3 j u hj)
      rw [run_bytesToString w ⟨bb, o, none⟩ _ c (b.map fun x => (x.toNat : Int)) (by rw [hl]; simp [bs, Function.comp_def]), strOf_fold]
      simp [strOf]
    · have hb : b = [] := by simpa [bs] using h1
      subst hb
      rw [run_convert_bytes_string w src dst el _ _ _ hs he hd]
      simp [Conv.bytesToString, Sem.run_pure]; rfl
  exact hard_rule (by simp only [execOp, H, hx, Sem.run_bind, Sem.run_pure, hr, Result.andThen_ok]) h
theorem streq_rule {x y : Operand} {t rt ty : TypeId} {a b : List UInt8} (hx : ev e x = .string (strOf a)) (hy : ev e y = .string (strOf b)) (h : R (symOps P l k (updO e d (.bool (decide (a = b)))) w)) :
    R (symOps P (⟨d, .hard (H (.binOp .eql t x y rt) ty), none⟩ :: l) k e w) := by
  have hr : (binOp .eql t (.string (strOf a)) (.string (strOf b))).run P w = .ok (.bool (decide (a = b))) w := by
    rw [binOp_string_eql, strOf_list, strOf_list, Sem.run_pure]
    congr 2
    by_cases h : a = b <;> simp [h]
  have hgd : eqGuard .eql t x y (.string (strOf a)) (.string (strOf b)) = pure () := rfl
  exact hard_rule (by simp only [execOp, H, hx, hy, hgd, Sem.run_bind, Sem.run_pure, hr, Result.andThen_ok]) h
end
theorem bytesEqual_spec {w : World} {u v : Value} {a b : List UInt8} (ha : HasB w u a) (hb : HasB w v b) :
    Calls Try.prog 47 #[u, v] w (Ret fun r w' => r = .bool (decide (a = b)) ∧ w' = w) := by
  have hs : Try.prog.underlying 29 = some (.slice 5) := by kernel_rfl
  have he : Try.prog.underlying 5 = some (.int .u8) := by kernel_rfl
  have hd : Try.prog.underlying 9 = some .string := by kernel_rfl
  apply enter47
  apply R_in
  simp (maxSteps := 600000) (disch := omega) only [F47, ↓sy1, sy2, sy3, readOK, sy5, sy6, Nat.reduceEqDiff, ↓reduceIte, sy7, sy8, sy9, sya, oneOf, syb, syc, Nat.reduceAdd, Nat.reduceMul, syd, sye, syf, syg, syh, reduceCtorEq]
  refine conv_rule (by simp only [upd_at, Nat.reduceEqDiff, reduceIte, ev_tmp, ev_const, List.map_cons, List.map_nil]) ha hs he hd ?_
  simp (maxSteps := 600000) (disch := omega) only [↓sy1, sy2, sy3, readOK, sy5, sy6, Nat.reduceEqDiff, ↓reduceIte, sy7, sy8, sy9, sya, oneOf, syb, syc, Nat.reduceAdd, Nat.reduceMul, syd, sye, syf, syg, syh, reduceCtorEq]
  refine conv_rule (by simp only [upd_at, Nat.reduceEqDiff, reduceIte, ev_tmp, ev_const, List.map_cons, List.map_nil]) hb hs he hd ?_
  simp (maxSteps := 600000) (disch := omega) only [↓sy1, sy2, sy3, readOK, sy5, sy6, Nat.reduceEqDiff, ↓reduceIte, sy7, sy8, sy9, sya, oneOf, syb, syc, Nat.reduceAdd, Nat.reduceMul, syd, sye, syf, syg, syh, reduceCtorEq]
  refine streq_rule (a := a) (b := b) (by simp only [upd_at, Nat.reduceEqDiff, reduceIte, ev_tmp, ev_const, List.map_cons, List.map_nil]) (by simp only [upd_at, Nat.reduceEqDiff, reduceIte, ev_tmp, ev_const, List.map_cons, List.map_nil]) ?_
  simp (maxSteps := 600000) (disch := omega) only [↓sy1, sy2, sy3, readOK, sy5, sy6, Nat.reduceEqDiff, ↓reduceIte, sy7, sy8, sy9, sya, oneOf, syb, syc, Nat.reduceAdd, Nat.reduceMul, syd, sye, syf, syg, syh, reduceCtorEq]
  exact R_out trivial
theorem equalFunc_spec {w : World} {u v : Value} {x y : List (List UInt8)} (ha : HasR w u x) (hb : HasR w v y) (hl : x.length ≤ 140737488355328) :
    Calls Try.prog 45 #[u, v, .func (.func 47) #[] #[]] w (Ret fun r w' => r = .bool (decide (x = y)) ∧ w' = w) := by
  have hcl : callable Try.prog 47 = true := by kernel_rfl
  apply enter45
  apply R_in
  by_cases hlen : x.length = y.length
  · simp (maxSteps := 600000) (disch := omega) only [F45, ↓sy1, sy2, sy3, readOK, sy5, sy6, Nat.reduceEqDiff, ↓reduceIte, sy7, sy8, sy9, sya, oneOf, syb, syc, Nat.reduceAdd, Nat.reduceMul, syd, sye, syf, syg, syh, reduceCtorEq, ha.len, hb.len, show ((x.length : Int) = (y.length : Int)) from by omega, decide_true]
    refine loop_rule (fun e w' => ∃ i : Nat, i ≤ x.length ∧ e 17 = .int .i64 i ∧ e 16 = .int .i64 x.length ∧ e 15 = u ∧ e 1 = v ∧ e 2 = .func (.func 47) #[] #[] ∧ x.take i = y.take i ∧ w' = w) (fun e _ => x.length - (intOf (e 17)).toNat)
      ⟨0, by omega, by simp [upd, updO, ev], by simp [upd, updO, ev, hlen], by simp [upd, updO, ev], by simp [upd, updO, ev], by simp [upd, updO, ev], rfl, rfl⟩ ?_
    rintro e w' ⟨i, hi, e17, e16, e15, e1, e2, htk, rfl⟩
    by_cases hlt : i < x.length
    · obtain ⟨p, xu, hp, hpc, hxu⟩ := ha.get hlt
      obtain ⟨q, yu, hq, hqc, hyu⟩ := hb.get (i := i) (by omega)
      simp (maxSteps := 600000) (disch := omega) only [F45_L0, ↓sy1, sy2, sy3, readOK, sy5, sy6, Nat.reduceEqDiff, ↓reduceIte, sy7, sy8, sy9, sya, oneOf, syb, syc, Nat.reduceAdd, Nat.reduceMul, syd, sye, syf, syg, syh, reduceCtorEq, e17, e16, e15, e1, e2, Int.ofNat_lt, hlt, decide_true, hp, hpc, hq, hqc]
      refine fval_rule hcl (by simp only [upd_at, Nat.reduceEqDiff, reduceIte, ev_tmp, ev_const, List.map_cons, List.map_nil, e2]) (vs := [xu, yu]) (by simp only [upd_at, Nat.reduceEqDiff, reduceIte, ev_tmp, ev_const, List.map_cons, List.map_nil]) (bytesEqual_spec hxu hyu) ?_
      rintro _ w2 ⟨rfl, rfl⟩
      by_cases heq : x[i] = y[i]'(by omega)
      · simp (maxSteps := 600000) (disch := omega) only [↓sy1, sy2, sy3, readOK, sy5, sy6, Nat.reduceEqDiff, ↓reduceIte, sy7, sy8, sy9, sya, oneOf, syb, syc, Nat.reduceAdd, Nat.reduceMul, syd, sye, syf, syg, syh, reduceCtorEq, e17, e16, e15, e1, e2, heq, decide_true]
        refine R_out ⟨⟨i + 1, by omega, rfl, take_succ_eq hlt (by omega) htk heq⟩, ?_⟩
        simp only [intOf]; omega
      · simp (maxSteps := 600000) (disch := omega) only [↓sy1, sy2, sy3, readOK, sy5, sy6, Nat.reduceEqDiff, ↓reduceIte, sy7, sy8, sy9, sya, oneOf, syb, syc, Nat.reduceAdd, Nat.reduceMul, syd, sye, syf, syg, syh, reduceCtorEq, e17, e16, e15, e1, e2, heq, decide_false]
        exact R_out (by simp [take_ne hlt (by omega) heq])
    · simp (maxSteps := 600000) (disch := omega) only [F45_L0, ↓sy1, sy2, sy3, readOK, sy5, sy6, Nat.reduceEqDiff, ↓reduceIte, sy7, sy8, sy9, sya, oneOf, syb, syc, Nat.reduceAdd, Nat.reduceMul, syd, sye, syf, syg, syh, reduceCtorEq, e17, e16, e15, e1, e2, Int.ofNat_lt, hlt, decide_false]
      have hie : i = x.length := by omega
      subst hie
      rw [List.take_length, hlen, List.take_length] at htk
      exact R_out (by simp [htk])
  · have hne : x ≠ y := fun h => hlen (by rw [h])
    simp (maxSteps := 600000) (disch := omega) only [F45, ↓sy1, sy2, sy3, readOK, sy5, sy6, Nat.reduceEqDiff, ↓reduceIte, sy7, sy8, sy9, sya, oneOf, syb, syc, Nat.reduceAdd, Nat.reduceMul, syd, sye, syf, syg, syh, reduceCtorEq, ha.len, hb.len, show ¬ ((x.length : Int) = (y.length : Int)) from by omega, decide_false]
    exact R_out (by simp [hne])
theorem same_spec {G G' : Gh} {κ κ' : Nat} {w : World} {p q : Nat} {D E : Dsk} (h : DiskAt G κ w p D) (h' : DiskAt G' κ' w q E) :
    Calls Try.prog 23 #[.pointer (some ⟨p, 0, none⟩), .pointer (some ⟨q, 0, none⟩)] w (Ret fun v w' => v = .bool (decide (D.image = E.image)) ∧ Grow w w') := by
  apply enter23
  apply R_in
  simp (maxSteps := 600000) (disch := omega) only [F23, ↓sy1, sy2, sy3, readOK, sy5, sy6, Nat.reduceEqDiff, ↓reduceIte, sy7, sy8, sy9, sya, oneOf, syb, syc, Nat.reduceAdd, Nat.reduceMul, syd, sye, syf, syg, syh, reduceCtorEq]
  refine call0 (image_spec h) ?_
  rintro u w1 ⟨hu, hg1⟩
  simp (maxSteps := 600000) (disch := omega) only [↓sy1, sy2, sy3, readOK, sy5, sy6, Nat.reduceEqDiff, ↓reduceIte, sy7, sy8, sy9, sya, oneOf, syb, syc, Nat.reduceAdd, Nat.reduceMul, syd, sye, syf, syg, syh, reduceCtorEq]
  refine call0 (image_spec (h'.grow hg1)) ?_
  rintro v w2 ⟨hv, hg2⟩
  simp (maxSteps := 600000) (disch := omega) only [↓sy1, sy2, sy3, readOK, sy5, sy6, Nat.reduceEqDiff, ↓reduceIte, sy7, sy8, sy9, sya, oneOf, syb, syc, Nat.reduceAdd, Nat.reduceMul, syd, sye, syf, syg, syh, reduceCtorEq]
  have hm := h.ok.most
  refine call0 (equalFunc_spec ((hu.grow hg2).has) hv.has (by rw [D.image_length]; omega)) ?_
  rintro _ w3 ⟨rfl, rfl⟩
  simp (maxSteps := 600000) (disch := omega) only [↓sy1, sy2, sy3, readOK, sy5, sy6, Nat.reduceEqDiff, ↓reduceIte, sy7, sy8, sy9, sya, oneOf, syb, syc, Nat.reduceAdd, Nat.reduceMul, syd, sye, syf, syg, syh, reduceCtorEq]
  exact R_out (hg1.trans hg2)
end Go.Proofs.Ytgmodahpcpepjaa

/- BcacheSame: the walk. -/
namespace Go.Proofs.Ytgmodahpcpepjaa
open Go
set_option linter.unusedSimpArgs false
open Go.RowKit (intOf)
/-- Two caches of the same pages. -/
structure SameC (x y : Csh) : Prop where
  size : x.size = y.size
  D : x.D = y.D
  q : x.q = y.q
theorem SameC.N {x y : Csh} (h : SameC x y) : x.N = y.N := by simp only [Csh.N, h.size, h.D]
theorem SameC.page {x y : Csh} (h : SameC x y) (n : Nat) : x.page n = y.page n := by simp only [Csh.page, h.size, h.D, h.q]
theorem SameC.dirty {x y : Csh} (h : SameC x y) : x.dirty = y.dirty := by simp only [Csh.dirty, h.N, h.q]
theorem SameC.code {x y : Csh} (h : SameC x y) (n : Int) (l : Nat) : x.wcode n l = y.wcode n l := by
  unfold Csh.wcode
  rw [h.N, h.q, h.dirty, show x.cap = y.cap from by simp only [Csh.cap, h.size]]
theorem SameC.read {x y : Csh} (h : SameC x y) (n : Nat) : SameC (x.read n) (y.read n) := ⟨by rw [Csh.read_size, Csh.read_size]; exact h.size, by rw [Csh.read_D, Csh.read_D]; exact h.D, by rw [Csh.read_q, Csh.read_q]; exact h.q⟩
theorem SameC.write {x y : Csh} (h : SameC x y) (n : Nat) (b : List UInt8) : SameC (x.write n b) (y.write n b) := ⟨h.size, h.D, by simp only [Csh.write, h.q]⟩
theorem SameC.commit {x y : Csh} (h : SameC x y) : SameC x.commit y.commit := ⟨h.size, by simp only [Csh.commit, h.dirty, Csh.dirtyL, h.q, h.D, h.size], rfl⟩
theorem SameC.abort {x y : Csh} (h : SameC x y) : SameC x.abort y.abort := ⟨h.size, h.D, rfl⟩
set_option maxHeartbeats 8000000 in
theorem bcacheSame_walk {w : World} {a b : Nat} {lv : Value} {l : List Deed4} (ha : a < 256) (hb : b < 256) (hv : HasD4 w lv l) :
    Calls Try.prog 7 #[.int .u8 a, .int .u8 b, lv] w (Ret fun v w' => v = .bool true ∧ Grow w w') := by
  have ham : (a : Int).tmod 64 = ((a % 64 : Nat) : Int) := rfl
  have hbm : (b : Int).tmod 64 = ((b % 64 : Nat) : Int) := rfl
  have ham1 : ((a % 64 : Nat) : Int) + 1 = ((a % 64 + 1 : Nat) : Int) := by omega
  have hbm1 : ((b % 64 : Nat) : Int) + 1 = ((b % 64 + 1 : Nat) : Int) := by omega
  apply enter7
  apply R_in
  simp (maxSteps := 1000000) (disch := omega) only [↓sy1, sy2, sy3, readOK, sy5, sy6, Nat.reduceEqDiff, ↓reduceIte, sy7, sy8, sy9, sya, oneOf, syb, syc, Nat.reduceAdd, Nat.reduceMul, syd, sye, syf, syg, syh, reduceCtorEq, F7, ham, ham1]
  refine call0 (copen_spec G00 (size := 6) (most := a % 64 + 1) 2 3 7 8 (by omega) (by omega) (by omega) (by omega) (by omega) (by omega) (by omega) (by omega) (by omega)) ?_
  rintro _ w1 ⟨p, r, lq, rq, G1, rfl, hp1, hr1, hc1, _, _, _, _, hx1⟩
  simp (maxSteps := 1000000) (disch := omega) only [↓sy1, sy2, sy3, readOK, sy5, sy6, Nat.reduceEqDiff, ↓reduceIte, sy7, sy8, sy9, sya, oneOf, syb, syc, Nat.reduceAdd, Nat.reduceMul, syd, sye, syf, syg, syh, reduceCtorEq, hbm, hbm1]
  refine call0 (copen_spec G1 (size := 6) (most := b % 64 + 1) 4 5 9 10 (by omega) (by omega) (by omega) (by omega) (by omega) (by omega) (by omega) (by omega) (by omega)) ?_
  rintro _ w2 ⟨p', r', lq', rq', G2, rfl, hp2, hr2, hd2, _, _, _, _, hx2⟩
  have hc2 := hc1.ext hx2 id id id
  simp (maxSteps := 1000000) (disch := omega) only [↓sy1, sy2, sy3, readOK, sy5, sy6, Nat.reduceEqDiff, ↓reduceIte, sy7, sy8, sy9, sya, oneOf, syb, syc, Nat.reduceAdd, Nat.reduceMul, syd, sye, syf, syg, syh, reduceCtorEq]
  refine call0 (live4_spec _) ?_
  rintro _ w3 ⟨rfl, hg3⟩
  have hx03 : Ext (fun c => c = 2 ∨ c = 7 ∨ c = 4 ∨ c = 9) G00 w G2 w3 := ((hx1.trans hx2).trans (.grow hg3)).mono (fun _ h => h.elim)
  simp (maxSteps := 1000000) (disch := omega) only [↓sy1, sy2, sy3, readOK, sy5, sy6, Nat.reduceEqDiff, ↓reduceIte, sy7, sy8, sy9, sya, oneOf, syb, syc, Nat.reduceAdd, Nat.reduceMul, syd, sye, syf, syg, syh, reduceCtorEq, Bool.not_true]
  refine loop_rule (fun e w' => ∃ (i : Nat) (x y : Csh) (G' : Gh), i ≤ min l.length 50 ∧ e 13 = .int .i64 i ∧ e 7 = .pointer (some ⟨p, 0, none⟩) ∧ e 10 = .pointer (some ⟨p', 0, none⟩) ∧ e 0 = .int .u8 a ∧ e 1 = .int .u8 b ∧ e 2 = lv ∧ CacheAt G' 2 7 w' p lq 0 x ∧ CacheAt G' 4 9 w' p' lq' 0 y ∧ SameC x y ∧ x.size = 6 ∧
      x.most = a % 64 + 1 ∧ y.most = b % 64 + 1 ∧ x.D.ops.length ≤ 206 * i ∧ x.D.first.length = 18 ∧ Ext (fun c => c = 2 ∨ c = 7 ∨ c = 4 ∨ c = 9) G00 w G' w') (fun e _ => min l.length 50 - (intOf (e 13)).toNat)
    ⟨0, _, _, G2, by omega, by simp [upd, updO, ev], by simp [upd, updO, ev], by simp [upd, updO, ev], by simp [upd, updO, ev], by simp [upd, updO, ev], by simp [upd, updO, ev], hc2.grow hg3, hd2.grow hg3, ⟨rfl, rfl, rfl⟩, rfl, rfl, rfl, by show 0 ≤ _; omega, zero_len 18, hx03⟩ ?_
  rintro e w4 ⟨i, x, y, G4, hi, e13, e7, e10, e0, e1, e2, hc4, hd4, hs4, hsz, hmx, hmy, hops, hfl, hx4⟩
  have hg4 : Grow w w4 := hx4.toGrow (by omega)
  have hv4 := HasD4.lenD hv
  by_cases hlt : i < min l.length 50
  · have hil : i < l.length := by omega
    obtain ⟨bb, o, hia, hat⟩ := HasD4.at hv hil
    have hbl : bb < w.heap.size := World.block_lt_of_cell? w _ (hat (Keep.refl _ _)).1
    generalize l[i] = z at hat
    obtain hk | hk | hk | hk | hk : z.kind = 0 ∨ z.kind = 1 ∨ z.kind = 2 ∨ z.kind = 3 ∨ ¬ (z.kind = 0 ∨ z.kind = 1 ∨ z.kind = 2 ∨ z.kind = 3) := by omega
    all_goals first
      | (
        have hk : z.kind = 0 := hk
        have hN : x.N = 11 := by simp only [Csh.N, hfl, hsz]
        simp (maxSteps := 1000000) (disch := omega) only [↓sy1, sy2, sy3, readOK, sy5, sy6, Nat.reduceEqDiff, ↓reduceIte, sy7, sy8, sy9, sya, oneOf, syb, syc, Nat.reduceAdd, Nat.reduceMul, syd, sye, syf, syg, syh, reduceCtorEq, F7_L0, e13, e7, e10, e0, e1, e2, hv4, Int.ofNat_lt, hil, show ((i : Int) < 50) from by omega, decide_true, hia, (hat hg4).1, (hat hg4).2.1, hk]
        by_cases hr : z.page < 0 ∨ 11 ≤ z.page
        all_goals first
          | (
            refine call0 (cread_badC hc4 (n := z.page) (by rw [hN]; exact hr)) ?_
            rintro _ w5 ⟨rfl, hg5⟩
            simp (maxSteps := 1000000) (disch := omega) only [↓sy1, sy2, sy3, readOK, sy5, sy6, Nat.reduceEqDiff, ↓reduceIte, sy7, sy8, sy9, sya, oneOf, syb, syc, Nat.reduceAdd, Nat.reduceMul, syd, sye, syf, syg, syh, reduceCtorEq, e13, e7, e10, e0, e1, e2, hia, (hat (hg4.trans hg5)).2.1]
            refine call0 (cread_badC (hd4.grow hg5) (n := z.page) (by rw [← hs4.N, hN]; exact hr)) ?_
            rintro _ w6 ⟨rfl, hg6⟩
            simp (maxSteps := 1000000) (disch := omega) only [↓sy1, sy2, sy3, readOK, sy5, sy6, Nat.reduceEqDiff, ↓reduceIte, sy7, sy8, sy9, sya, oneOf, syb, syc, Nat.reduceAdd, Nat.reduceMul, syd, sye, syf, syg, syh, reduceCtorEq, e13, e7, e10, e0, e1, e2, decide_true, Bool.not_true]
            refine call0 (sameBytes_spec _ _ [] [] w6 (Has.nil 1 w6) (Has.nil 1 w6) (by simp)) ?_
            rintro _ w7 ⟨rfl, hg7⟩
            simp (maxSteps := 1000000) (disch := omega) only [↓sy1, sy2, sy3, readOK, sy5, sy6, Nat.reduceEqDiff, ↓reduceIte, sy7, sy8, sy9, sya, oneOf, syb, syc, Nat.reduceAdd, Nat.reduceMul, syd, sye, syf, syg, syh, reduceCtorEq, e13, e7, e10, e0, e1, e2, decide_true, Bool.not_true]
            have hC := ((hc4.grow hg5).grow hg6).grow hg7
            have hD := ((hd4.grow hg5).grow hg6).grow hg7
            have hS := hs4
            have hSz := hsz
            have hMx := hmx
            have hMy := hmy
            have hO : x.D.ops.length ≤ 206 * (i + 1) := by omega
            have hF := hfl
            have hX := ((hx4.trans (.grow hg5)).trans (.grow hg6)).trans (.grow hg7))
          | (
            obtain ⟨m, hm⟩ : ∃ m : Nat, z.page = m := ⟨z.page.toNat, by omega⟩
            rw [hm] at hat ⊢
            refine call0 (cread_strong hc4 (n := m) (by omega)) ?_
            rintro _ w5 ⟨u5, G5, w5a, rfl, hu5, hc5, hx5, hg5⟩
            have hx5' : Ext0 G5 w5a (G5.new w5a.heap.size) w5 := .newB hg5
            have hc5' := hc5.ext hx5' id id id
            have hd5 := (hd4.ext hx5 (by omega) (by omega) (by omega)).ext hx5' id id id
            have hx05 := (hx4.trans (hx5.mono (κ' := fun c => c = 2 ∨ c = 7 ∨ c = 4 ∨ c = 9) (by omega))).trans (hx5'.mono (fun _ h => h.elim))
            have hob : ∀ b, u5.ownBlock = some b → (G5.new w5a.heap.size).own b = 0 := fun b hb => Gh.new_own (World.ownsRow.lt hu5 b hb).1
            generalize G5.new w5a.heap.size = G5' at hx5' hc5' hd5 hx05 hob
            simp (maxSteps := 1000000) (disch := omega) only [↓sy1, sy2, sy3, readOK, sy5, sy6, Nat.reduceEqDiff, ↓reduceIte, sy7, sy8, sy9, sya, oneOf, syb, syc, Nat.reduceAdd, Nat.reduceMul, syd, sye, syf, syg, syh, reduceCtorEq, e13, e7, e10, e0, e1, e2, hia, (hat (hx05.toGrow (by omega))).2.1]
            refine call0 (cread_spec hd5 (n := m) (by rw [← hs4.N]; omega)) ?_
            rintro _ w6 ⟨u6, G6, rfl, hu6, hd6, hx6⟩
            have hu5' := own_keep hu5 hx6.keep (fun b hb hh => by rw [hob b hb] at hh; omega)
            have hc6 := hc5'.ext hx6 (by omega) (by omega) (by omega)
            have hx06 := hx05.trans (hx6.mono (κ' := fun c => c = 2 ∨ c = 7 ∨ c = 4 ∨ c = 9) (by omega))
            rw [← hs4.page m] at hu6
            have hpl := Csh.page_length hc4.1 (n := m) (by omega)
            simp (maxSteps := 1000000) (disch := omega) only [↓sy1, sy2, sy3, readOK, sy5, sy6, Nat.reduceEqDiff, ↓reduceIte, sy7, sy8, sy9, sya, oneOf, syb, syc, Nat.reduceAdd, Nat.reduceMul, syd, sye, syf, syg, syh, reduceCtorEq, e13, e7, e10, e0, e1, e2, decide_true, Bool.not_true]
            refine call0 (sameBytes_spec u5 u6 (x.page m) (x.page m) w6 (Has.own hu5') (Has.own hu6) (by omega)) ?_
            rintro _ w7 ⟨rfl, hg7⟩
            simp (maxSteps := 1000000) (disch := omega) only [↓sy1, sy2, sy3, readOK, sy5, sy6, Nat.reduceEqDiff, ↓reduceIte, sy7, sy8, sy9, sya, oneOf, syb, syc, Nat.reduceAdd, Nat.reduceMul, syd, sye, syf, syg, syh, reduceCtorEq, e13, e7, e10, e0, e1, e2, decide_true, Bool.not_true]
            have hC := hc6.grow hg7
            have hD := hd6.grow hg7
            have hS := hs4.read m
            have hSz : (x.read m).size = 6 := by rw [Csh.read_size]; exact hsz
            have hMx : (x.read m).most = a % 64 + 1 := by rw [Csh.read_most]; exact hmx
            have hMy : (y.read m).most = b % 64 + 1 := by rw [Csh.read_most]; exact hmy
            have hO : (x.read m).D.ops.length ≤ 206 * (i + 1) := by rw [Csh.read_D]; omega
            have hF : (x.read m).D.first.length = 18 := by rw [Csh.read_D]; exact hfl
            have hX := hx06.trans (.grow hg7))
          )
      | (
        have hk : z.kind = 1 := hk
        simp (maxSteps := 1000000) (disch := omega) only [↓sy1, sy2, sy3, readOK, sy5, sy6, Nat.reduceEqDiff, ↓reduceIte, sy7, sy8, sy9, sya, oneOf, syb, syc, Nat.reduceAdd, Nat.reduceMul, syd, sye, syf, syg, syh, reduceCtorEq, F7_L0, e13, e7, e10, e0, e1, e2, hv4, Int.ofNat_lt, hil, show ((i : Int) < 50) from by omega, decide_true, hia, (hat hg4).1, hk, show ¬ ((1 : Int) = 0) from by omega, decide_false]
        refine draw7_0 (fun b => G4.own b = 7) ?_
        have hgd : Grow w4 w4.drew := (Keep.refl _ _).drew
        generalize w4.drew = w5 at hgd ⊢
        have hb0 : ¬ (G4.own bb = 7) := by rw [hx4.own bb hbl]; show ¬ (0 = 7); omega
        have hg5 := hg4.trans hgd
        have hdl := z.data_le
        simp (maxSteps := 1000000) (disch := omega) only [↓sy1, sy2, sy3, readOK, sy5, sy6, Nat.reduceEqDiff, ↓reduceIte, sy7, sy8, sy9, sya, oneOf, syb, syc, Nat.reduceAdd, Nat.reduceMul, syd, sye, syf, syg, syh, reduceCtorEq, PL7_0, e13, e7, e10, e0, e1, e2, hia, (hat hg5).2.1, (hat hg5).2.2.2.2, hb0]
        refine ⟨⟨Keep.refl _ _, ?_, Keep.refl _ _, ?_⟩, Keep.refl _ _, Keep.refl _ _, ?_⟩
        all_goals
          refine call0 (d4bytes_spec z) ?_
          rintro bv w6 ⟨hbv, hg6⟩
          have hK6 : Keep (fun b => G4.own b = 7) w5 w6 := hg6.mono (fun _ _ h => h.elim)
          simp (maxSteps := 1000000) (disch := omega) only [↓sy1, sy2, sy3, readOK, sy5, sy6, Nat.reduceEqDiff, ↓reduceIte, sy7, sy8, sy9, sya, oneOf, syb, syc, Nat.reduceAdd, Nat.reduceMul, syd, sye, syf, syg, syh, reduceCtorEq, hia, e2, e13, (hat (hg5.trans hg6)).2.2.2.2]
          first
            | refine ⟨hK6, ?_, hK6, ?_⟩
            | refine ⟨hK6, ?_⟩
        all_goals
          refine call0 (cwrite_spec ((hc4.grow hgd).grow hg6) (n := z.page) (Has.own hbv) (by omega)) ?_
          rintro _ w7 ⟨rfl, G7, hc7, hx7⟩
          have hK7 : Keep (fun b => G4.own b = 7) w5 w7 := hK6.trans hx7.keep
          have hd7 := ((hd4.grow hgd).grow hg6).ext hx7 (by omega) (by omega) (by omega)
          have hx07 := ((hx4.trans (.grow hgd)).trans (.grow hg6)).trans (hx7.mono (κ' := fun c => c = 2 ∨ c = 7 ∨ c = 4 ∨ c = 9) (by omega))
          simp (maxSteps := 1000000) (disch := omega) only [↓sy1, sy2, sy3, readOK, sy5, sy6, Nat.reduceEqDiff, ↓reduceIte, sy7, sy8, sy9, sya, oneOf, syb, syc, Nat.reduceAdd, Nat.reduceMul, syd, sye, syf, syg, syh, reduceCtorEq, hia, e2, e13, (hat (hx07.toGrow (by omega))).2.2.2.2]
          first
            | refine ⟨hK7, hK7, ?_⟩
            | refine ⟨hK7, ?_⟩
        all_goals
          refine call0 (d4bytes_spec z) ?_
          rintro bv2 w8 ⟨hbv2, hg8⟩
          have hK8 : Keep (fun b => G4.own b = 7) w5 w8 := hK7.trans (hg8.mono (fun _ _ h => h.elim))
          simp (maxSteps := 1000000) (disch := omega) only [↓sy1, sy2, sy3, readOK, sy5, sy6, Nat.reduceEqDiff, ↓reduceIte, sy7, sy8, sy9, sya, oneOf, syb, syc, Nat.reduceAdd, Nat.reduceMul, syd, sye, syf, syg, syh, reduceCtorEq]
          refine ⟨hK8, ?_⟩
          refine call0 (cwrite_spec (hd7.grow hg8) (n := z.page) (Has.own hbv2) (by omega)) ?_
          rintro _ w9 ⟨rfl, G9, hd9, hx9⟩
          simp (maxSteps := 1000000) (disch := omega) only [↓sy1, sy2, sy3, readOK, sy5, sy6, Nat.reduceEqDiff, ↓reduceIte, sy7, sy8, sy9, sya, oneOf, syb, syc, Nat.reduceAdd, Nat.reduceMul, syd, sye, syf, syg, syh, reduceCtorEq, hs4.code, e13, e7, e10, e0, e1, e2, decide_true, Bool.not_true]
          have hC := (hc7.grow hg8).ext hx9 (by omega) (by omega) (by omega)
          have hD := hd9
          have hS : SameC (if x.wcode z.page z.data.length = 0 then x.write z.page.toNat z.data else x) (if y.wcode z.page z.data.length = 0 then y.write z.page.toNat z.data else y) := by
            rw [← hs4.code]
            split
            · exact hs4.write _ _
            · exact hs4
          have hSz : (if x.wcode z.page z.data.length = 0 then x.write z.page.toNat z.data else x).size = 6 := by split <;> exact hsz
          have hMx : (if x.wcode z.page z.data.length = 0 then x.write z.page.toNat z.data else x).most = a % 64 + 1 := by split <;> exact hmx
          have hMy : (if y.wcode z.page z.data.length = 0 then y.write z.page.toNat z.data else y).most = b % 64 + 1 := by split <;> exact hmy
          have hO : (if x.wcode z.page z.data.length = 0 then x.write z.page.toNat z.data else x).D.ops.length ≤ 206 * (i + 1) := by split <;> (show x.D.ops.length ≤ _; omega)
          have hF : (if x.wcode z.page z.data.length = 0 then x.write z.page.toNat z.data else x).D.first.length = 18 := by split <;> exact hfl
          have hX := (hx07.trans (.grow hg8)).trans (hx9.mono (κ' := fun c => c = 2 ∨ c = 7 ∨ c = 4 ∨ c = 9) (by omega)))
      | (
        have hk : z.kind = 2 := hk
        simp (maxSteps := 1000000) (disch := omega) only [↓sy1, sy2, sy3, readOK, sy5, sy6, Nat.reduceEqDiff, ↓reduceIte, sy7, sy8, sy9, sya, oneOf, syb, syc, Nat.reduceAdd, Nat.reduceMul, syd, sye, syf, syg, syh, reduceCtorEq, F7_L0, e13, e7, e10, e0, e1, e2, hv4, Int.ofNat_lt, hil, show ((i : Int) < 50) from by omega, decide_true, hia, (hat hg4).1, hk, show ¬ ((2 : Int) = 0) from by omega, show ¬ ((2 : Int) = 1) from by omega, decide_false]
        refine call0 (ccommit_spec hc4 (by omega)) ?_
        rintro _ w5 ⟨rfl, G5, hc5, hx5⟩
        have hd5 := hd4.ext hx5 (by omega) (by omega) (by omega)
        simp (maxSteps := 1000000) (disch := omega) only [↓sy1, sy2, sy3, readOK, sy5, sy6, Nat.reduceEqDiff, ↓reduceIte, sy7, sy8, sy9, sya, oneOf, syb, syc, Nat.reduceAdd, Nat.reduceMul, syd, sye, syf, syg, syh, reduceCtorEq, e13, e7, e10, e0, e1, e2]
        refine call0 (ccommit_spec hd5 (by rw [← hs4.D]; omega)) ?_
        rintro _ w6 ⟨rfl, G6, hd6, hx6⟩
        simp (maxSteps := 1000000) (disch := omega) only [↓sy1, sy2, sy3, readOK, sy5, sy6, Nat.reduceEqDiff, ↓reduceIte, sy7, sy8, sy9, sya, oneOf, syb, syc, Nat.reduceAdd, Nat.reduceMul, syd, sye, syf, syg, syh, reduceCtorEq, e13, e7, e10, e0, e1, e2]
        have hC := hc5.ext hx6 (by omega) (by omega) (by omega)
        have hD := hd6
        have hS := hs4.commit
        have hSz : x.commit.size = 6 := hsz
        have hMx : x.commit.most = a % 64 + 1 := hmx
        have hMy : y.commit.most = b % 64 + 1 := hmy
        have hO : x.commit.D.ops.length ≤ 206 * (i + 1) := by have := (Csh.commit_ops hc4.1).1; omega
        have hF : x.commit.D.first.length = 18 := by rw [Csh.commit_first]; exact hfl
        have hX := (hx4.trans (hx5.mono (κ' := fun c => c = 2 ∨ c = 7 ∨ c = 4 ∨ c = 9) (by omega))).trans (hx6.mono (κ' := fun c => c = 2 ∨ c = 7 ∨ c = 4 ∨ c = 9) (by omega)))
      | (
        have hk : z.kind = 3 := hk
        simp (maxSteps := 1000000) (disch := omega) only [↓sy1, sy2, sy3, readOK, sy5, sy6, Nat.reduceEqDiff, ↓reduceIte, sy7, sy8, sy9, sya, oneOf, syb, syc, Nat.reduceAdd, Nat.reduceMul, syd, sye, syf, syg, syh, reduceCtorEq, F7_L0, e13, e7, e10, e0, e1, e2, hv4, Int.ofNat_lt, hil, show ((i : Int) < 50) from by omega, decide_true, hia, (hat hg4).1, hk, show ¬ ((3 : Int) = 0) from by omega, show ¬ ((3 : Int) = 1) from by omega, show ¬ ((3 : Int) = 2) from by omega, decide_false]
        refine call0 (abort_spec hc4) ?_
        rintro _ w5 ⟨rfl, hc5, hx5⟩
        have hd5 := hd4.ext hx5 (by omega) (by omega) (by omega)
        simp (maxSteps := 1000000) (disch := omega) only [↓sy1, sy2, sy3, readOK, sy5, sy6, Nat.reduceEqDiff, ↓reduceIte, sy7, sy8, sy9, sya, oneOf, syb, syc, Nat.reduceAdd, Nat.reduceMul, syd, sye, syf, syg, syh, reduceCtorEq, e13, e7, e10, e0, e1, e2]
        refine call0 (abort_spec hd5) ?_
        rintro _ w6 ⟨rfl, hd6, hx6⟩
        simp (maxSteps := 1000000) (disch := omega) only [↓sy1, sy2, sy3, readOK, sy5, sy6, Nat.reduceEqDiff, ↓reduceIte, sy7, sy8, sy9, sya, oneOf, syb, syc, Nat.reduceAdd, Nat.reduceMul, syd, sye, syf, syg, syh, reduceCtorEq, e13, e7, e10, e0, e1, e2]
        have hC := hc5.ext hx6 (by omega) (by omega) (by omega)
        have hD := hd6
        have hS := hs4.abort
        have hSz : x.abort.size = 6 := hsz
        have hMx : x.abort.most = a % 64 + 1 := hmx
        have hMy : y.abort.most = b % 64 + 1 := hmy
        have hO : x.abort.D.ops.length ≤ 206 * (i + 1) := by show x.D.ops.length ≤ _; omega
        have hF : x.abort.D.first.length = 18 := hfl
        have hX := (hx4.trans (hx5.mono (κ' := fun c => c = 2 ∨ c = 7 ∨ c = 4 ∨ c = 9) (by omega))).trans (hx6.mono (κ' := fun c => c = 2 ∨ c = 7 ∨ c = 4 ∨ c = 9) (by omega)))
      | (
        have hk0 : ¬ z.kind = 0 := by omega
        have hk1 : ¬ z.kind = 1 := by omega
        have hk2 : ¬ z.kind = 2 := by omega
        have hk3 : ¬ z.kind = 3 := by omega
        simp (maxSteps := 1000000) (disch := omega) only [↓sy1, sy2, sy3, readOK, sy5, sy6, Nat.reduceEqDiff, ↓reduceIte, sy7, sy8, sy9, sya, oneOf, syb, syc, Nat.reduceAdd, Nat.reduceMul, syd, sye, syf, syg, syh, reduceCtorEq, F7_L0, e13, e7, e10, e0, e1, e2, hv4, Int.ofNat_lt, hil, show ((i : Int) < 50) from by omega, decide_true, hia, (hat hg4).1, hk0, hk1, hk2, hk3, decide_false]
        have hC := hc4
        have hD := hd4
        have hS := hs4
        have hSz := hsz
        have hMx := hmx
        have hMy := hmy
        have hO : x.D.ops.length ≤ 206 * (i + 1) := by omega
        have hF := hfl
        have hX := hx4)
    all_goals
      refine call0 (ccached_spec hC) ?_
      rintro cv wc ⟨hcv, hgc⟩
      have hcl := fun w' => Has.lenI (Has.own hcv) w'
      simp only [zs, List.length_map] at hcl
      have hfew := hC.1.few
      rw [hMx] at hfew
      have hnl := Int.not_lt.2 (Int.ofNat_le.2 hfew)
      simp (maxSteps := 1000000) (disch := omega) only [↓sy1, sy2, sy3, readOK, sy5, sy6, Nat.reduceEqDiff, ↓reduceIte, sy7, sy8, sy9, sya, oneOf, syb, syc, Nat.reduceAdd, Nat.reduceMul, syd, sye, syf, syg, syh, reduceCtorEq, hcl, e13, e7, e10, e0, e1, e2, ham, ham1, hnl, decide_false]
      refine call0 (ccached_spec (hD.grow hgc)) ?_
      rintro cv2 wd ⟨hcv2, hgd2⟩
      have hcl2 := fun w' => Has.lenI (Has.own hcv2) w'
      simp only [zs, List.length_map] at hcl2
      have hfew2 := hD.1.few
      rw [hMy] at hfew2
      have hnl2 := Int.not_lt.2 (Int.ofNat_le.2 hfew2)
      simp (maxSteps := 1000000) (disch := omega) only [↓sy1, sy2, sy3, readOK, sy5, sy6, Nat.reduceEqDiff, ↓reduceIte, sy7, sy8, sy9, sya, oneOf, syb, syc, Nat.reduceAdd, Nat.reduceMul, syd, sye, syf, syg, syh, reduceCtorEq, hcl2, e13, e7, e10, e0, e1, e2, hbm, hbm1, hnl2, decide_false]
      exact R_out ⟨⟨i + 1, _, _, _, by omega, rfl, (hC.grow hgc).grow hgd2, (hD.grow hgc).grow hgd2, hS, hSz, hMx, hMy, hO, hF, (hX.trans (.grow hgc)).trans (.grow hgd2)⟩, by simp only [intOf]; omega⟩
  · by_cases hil : i < l.length
    all_goals first
      | (simp (maxSteps := 1000000) (disch := omega) only [↓sy1, sy2, sy3, readOK, sy5, sy6, Nat.reduceEqDiff, ↓reduceIte, sy7, sy8, sy9, sya, oneOf, syb, syc, Nat.reduceAdd, Nat.reduceMul, syd, sye, syf, syg, syh, reduceCtorEq, F7_L0, e13, e7, e10, e0, e1, e2, hv4, Int.ofNat_lt, hil, show ¬ ((i : Int) < 50) from by omega, decide_true, decide_false])
      | (simp (maxSteps := 1000000) (disch := omega) only [↓sy1, sy2, sy3, readOK, sy5, sy6, Nat.reduceEqDiff, ↓reduceIte, sy7, sy8, sy9, sya, oneOf, syb, syc, Nat.reduceAdd, Nat.reduceMul, syd, sye, syf, syg, syh, reduceCtorEq, F7_L0, e13, e7, e10, e0, e1, e2, hv4, Int.ofNat_lt, hil, decide_true, decide_false])
    all_goals
      refine call0 (clog_spec hc4) ?_
      rintro _ w5 ⟨rfl, rfl⟩
      simp (maxSteps := 1000000) (disch := omega) only [↓sy1, sy2, sy3, readOK, sy5, sy6, Nat.reduceEqDiff, ↓reduceIte, sy7, sy8, sy9, sya, oneOf, syb, syc, Nat.reduceAdd, Nat.reduceMul, syd, sye, syf, syg, syh, reduceCtorEq]
      refine call0 (ldisk_spec 11 hc4.2.log) ?_
      rintro _ w6 ⟨d6, G6, rfl, _, hdd6, hx6⟩
      simp (maxSteps := 1000000) (disch := omega) only [↓sy1, sy2, sy3, readOK, sy5, sy6, Nat.reduceEqDiff, ↓reduceIte, sy7, sy8, sy9, sya, oneOf, syb, syc, Nat.reduceAdd, Nat.reduceMul, syd, sye, syf, syg, syh, reduceCtorEq, e10]
      refine call0 (clog_spec (hd4.ext hx6 id id id)) ?_
      rintro _ w7 ⟨rfl, rfl⟩
      simp (maxSteps := 1000000) (disch := omega) only [↓sy1, sy2, sy3, readOK, sy5, sy6, Nat.reduceEqDiff, ↓reduceIte, sy7, sy8, sy9, sya, oneOf, syb, syc, Nat.reduceAdd, Nat.reduceMul, syd, sye, syf, syg, syh, reduceCtorEq]
      refine call0 (ldisk_spec 12 (hd4.ext hx6 id id id).2.log) ?_
      rintro _ w8 ⟨d8, G8, rfl, _, hdd8, hx8⟩
      simp (maxSteps := 1000000) (disch := omega) only [↓sy1, sy2, sy3, readOK, sy5, sy6, Nat.reduceEqDiff, ↓reduceIte, sy7, sy8, sy9, sya, oneOf, syb, syc, Nat.reduceAdd, Nat.reduceMul, syd, sye, syf, syg, syh, reduceCtorEq]
      refine call0 (same_spec (hdd6.ext hx8 id) hdd8) ?_
      rintro _ w9 ⟨rfl, hg9⟩
      rw [hs4.D]
      simp (maxSteps := 1000000) (disch := omega) only [↓sy1, sy2, sy3, readOK, sy5, sy6, Nat.reduceEqDiff, ↓reduceIte, sy7, sy8, sy9, sya, oneOf, syb, syc, Nat.reduceAdd, Nat.reduceMul, syd, sye, syf, syg, syh, reduceCtorEq, decide_true]
      exact R_out (((hx4.trans ((hx6.trans hx8).mono (fun _ h => h.elim))).toGrow (by omega)).trans hg9)
end Go.Proofs.Ytgmodahpcpepjaa

/- Arguments opened: rows of numbers, of bytes. What is only read reads as it did. -/
namespace Go.Proofs.Ytgmodahpcpepjaa
open Go
set_option linter.unusedSimpArgs false
open Go.RowKit Go.ChangeShapes Go.WideShapes Go.Deep Go.Joins
theorem okSlice {P : Program} {w : World} {r : Reach} {base : Nat} {t e : TypeId} {v : Value} (ht : P.underlying t = some (.slice e)) (h : Value.okWide P w r base t v) :
    v = .slice none 0 0 ∨ ∃ b o len cap, v = .slice (some ⟨b, o, none⟩) len cap := by
  simp only [Value.okWide, ht, Cell.okWide] at h
  cases v with
  | slice a len cap =>
    cases a with
    | none =>
      simp only [Cell.ok, ht] at h
      cases len <;> cases cap <;> simp at h
      exact .inl rfl
    | some a =>
      simp only [Cell.ok, ht] at h
      obtain ⟨_, _, _, hs, _⟩ := h
      obtain ⟨b, o, s⟩ := a
      cases hs
      exact .inr ⟨b, o, len, cap, rfl⟩
  | _ => simp [Cell.ok, ht] at h
section
variable {H : Type} {enc : TypeId × Value → H} {w : World} {base : Nat} {spare : Nat → Bool} {held : Bool}
theorem cellsBool : Try.prog.cellsOf 4 = 1 := by kernel_rfl
theorem cellsInt : Try.prog.cellsOf 3 = 1 := by kernel_rfl
theorem cellsU8 : Try.prog.cellsOf 5 = 1 := by kernel_rfl
set_option maxRecDepth 100000 in
/-- A row of numbers. -/
theorem open_intsL {v : Value} {d : DataW H} {p : List MemPlace} {W : World} {b0 : Nat} (hv : Value.okWide Try.prog W .any b0 45 v) (h : DataW.Trod enc Try.prog W 0 (fun _ => true) true 45 v d p) :
    ∃ l : List Int, HasI W v l ∧ l.length ≤ 9223372036854775807 ∧ ∀ z ∈ l, -9223372036854775808 ≤ z ∧ z ≤ 9223372036854775807 := by
  obtain ⟨fuel, hf⟩ := h
  rcases okSlice Try.underlying45 hv with rfl | ⟨b, o, len, cap, rfl⟩
  · exact ⟨[], Has.nil 1 W, by simp, by simp⟩
  rcases open_ints Try.underlying45 Try.underlying3 cellsInt hf with ⟨hcs, _⟩ | ⟨a, len', cap', zs, hcs, _, hl, hm, hz, hx, hcell, hwz⟩
  · simp [Value.cells] at hcs
  simp only [Value.cells, List.cons.injEq, Value.slice.injEq, and_true, Option.some.injEq] at hcs
  obtain ⟨rfl, rfl, rfl⟩ := hcs
  simp only [if_true] at hz
  have hlen : (zs.take len).length = len := by rw [List.length_take]; omega
  refine ⟨zs.take len, .inl ⟨b, o, len, cap, rfl, by simp only [ints, List.length_map, hlen]; omega, hl, fun j u hj => ?_⟩, ?_, fun z hz' => ?_⟩
  · simp only [ints, List.getElem?_map, Option.map_eq_some_iff] at hj
    obtain ⟨z, hj, rfl⟩ := hj
    obtain ⟨hjl, hj⟩ := List.getElem?_eq_some_iff.1 hj
    rw [hlen] at hjl
    have := hcell j (by omega)
    rw [add_lit] at this
    rw [this, ← hj, List.getElem_take, List.getD_eq_getElem?_getD, List.getElem?_eq_getElem (by omega)]; rfl
  · rw [hlen]; have : maxLen = 9223372036854775807 := rfl; omega
  · have := bounds_i64 (hwz z (List.mem_of_mem_take hz')); omega
set_option maxRecDepth 100000 in
/-- A row of bytes. -/
theorem open_bytesL {v : Value} {d : DataW H} {p : List MemPlace} {W : World} {b0 : Nat} (hv : Value.okWide Try.prog W .any b0 29 v) (h : DataW.Trod enc Try.prog W 0 (fun _ => true) true 29 v d p) :
    ∃ l : List UInt8, HasB W v l := by
  obtain ⟨fuel, hf⟩ := h
  rcases okSlice Try.underlying29 hv with rfl | ⟨b, o, len, cap, rfl⟩
  · exact ⟨[], Has.nil 1 W⟩
  rcases open_ints Try.underlying29 Try.underlying5 cellsU8 hf with ⟨hcs, _⟩ | ⟨a, len', cap', zs, hcs, _, hl, hm, hz, hx, hcell, hwz⟩
  · simp [Value.cells] at hcs
  simp only [Value.cells, List.cons.injEq, Value.slice.injEq, and_true, Option.some.injEq] at hcs
  obtain ⟨rfl, rfl, rfl⟩ := hcs
  simp only [if_true] at hz
  have hlen : (zs.take len).length = len := by rw [List.length_take]; omega
  refine ⟨(zs.take len).map fun z => UInt8.ofNat z.toNat, .inl ⟨b, o, len, cap, rfl, by simp [bs]; omega, hl, fun j u hj => ?_⟩⟩
  simp only [bs, List.map_map, List.getElem?_map, Option.map_eq_some_iff, Function.comp] at hj
  obtain ⟨z, hj, rfl⟩ := hj
  obtain ⟨hjl, hj⟩ := List.getElem?_eq_some_iff.1 hj
  rw [hlen] at hjl
  have := hcell j (by omega)
  rw [add_lit] at this
  have hbz := bounds_u8 (hwz z (by rw [← hj, List.getElem_take]; exact List.getElem_mem _))
  rw [this, ← hj, List.getElem_take, List.getD_eq_getElem?_getD, List.getElem?_eq_getElem (by omega)]
  rw [List.getElem_take] at hj
  have hz' : ((UInt8.ofNat z.toNat).toNat : Int) = z := by rw [UInt8.toNat_ofNat']; omega
  rw [hj, hz']; rfl
theorem u8_nat {n : Int} (h : (Lit.int .u8 n).wf = true) : ∃ k : Nat, k < 256 ∧ n = (k : Int) := by
  have := bounds_u8 h
  exact ⟨n.toNat, by omega, by omega⟩
/-- What is only read reads as it did. -/
theorem argsStay {P : Program} {W W' : World} (hl : laidOutB P = true) (hb : Below W.heap.size W W') : ∀ {ts : List TypeId} {vs : List Value} {ds : List (DataW H)} {ps : List MemPlace}, (ts.all fun t => P.readableRec t && decide (t < P.types.size)) = true →
    DataW.TrodAll enc P W 0 (fun _ => true) true ts vs ds ps → (∀ x ∈ ps, x.block < W.heap.size) → DataW.TrodAll enc P W' 0 (fun b => decide (b < W.heap.size)) true ts vs ds ps
  | [], _, _, _, _, h, _ => by
    obtain ⟨rfl, rfl, rfl⟩ := trodAll_nil h
    exact trodAll_mk0
  | t :: ts, _, _, _, ht, h, hlt => by
    obtain ⟨v, vs, d, ds, p, q, rfl, rfl, rfl, h0, h1⟩ := trodAll_cons h
    simp only [List.all_cons, Bool.and_eq_true, decide_eq_true_eq] at ht
    exact trodAll_cons_mk (Below.trod hl ht.1.1 ht.1.2 h0 hb (fun x hx => hlt x (by simp [hx]))) (argsStay hl hb ht.2 h1 (fun x hx => hlt x (by simp [hx])))
end
end Go.Proofs.Ytgmodahpcpepjaa

/- Arguments opened: rows of deeds; a deed (law04). -/
namespace Go.Proofs.Ytgmodahpcpepjaa
open Go
set_option linter.unusedSimpArgs false
open Go.RowKit Go.ChangeShapes Go.WideShapes Go.Deep Go.Joins
section
variable {H : Type} {enc : TypeId × Value → H} {w : World} {base : Nat} {spare : Nat → Bool} {held : Bool}
theorem cellsDeed4 : Try.prog.cellsOf 23 = 4 := by kernel_rfl
set_option maxRecDepth 100000 in
theorem deed4_fields {fuel : Nat} {cs : List Value} {x : DataW H × List MemPlace} (h : DataW.trod enc Try.prog w base spare held fuel 23 cs = some x) : ∃ y : Deed4, cs = y.cells := by
  obtain ⟨y0, y1, y2, y3, n, _, hl, h0, h1, h2, h3⟩ := trod_struct4 Try.underlying23 h
  rw [cellsDeed4] at hl
  match cs, hl with
  | [c0, c1, c2, c3], _ =>
    simp only [cellsBool, cellsInt, cellsU8, List.drop_zero, List.drop_succ_cons, List.take_succ_cons, List.take_zero] at h0 h1 h2 h3
    obtain ⟨a0, e0, _, w0⟩ := DataW.trod_int Try.underlying3 h0
    obtain ⟨a1, e1, _, w1⟩ := DataW.trod_int Try.underlying3 h1
    obtain ⟨a2, e2, _, wf⟩ := DataW.trod_int Try.underlying5 h2
    obtain ⟨a3, e3, _⟩ := DataW.trod_bool Try.underlying4 h3
    cases e0; cases e1; cases e2; cases e3
    have hb := bounds_u8 wf
    refine ⟨⟨a0, a1, UInt8.ofNat a2.toNat, a3⟩, ?_⟩
    have : ((UInt8.ofNat a2.toNat).toNat : Int) = a2 := by
      rw [UInt8.toNat_ofNat']; omega
    simp [Deed4.cells]; omega
set_option maxRecDepth 100000 in
theorem open_deeds4 {v : Value} {d : DataW H} {p : List MemPlace} {W : World} {b0 : Nat} (hv : Value.okWide Try.prog W .any b0 40 v) (h : DataW.Trod enc Try.prog W 0 (fun _ => true) true 40 v d p) :
    ∃ l : List Deed4, HasD4 W v l := by
  have hC := cellsDeed4
  obtain ⟨fuel, hf⟩ := h
  rcases okSlice Try.underlying40 hv with rfl | ⟨b, o, len, cap, rfl⟩
  · exact ⟨[], Has.nil 4 W⟩
  rcases open_slice Try.underlying40 hf with ⟨hcs, _⟩ | ⟨a, len', cap', m, n, D, Pl, hcs, hb, hl, hm, hmm, hx, hi⟩
  · simp [Value.cells] at hcs
  simp only [Value.cells, List.cons.injEq, Value.slice.injEq, and_true, Option.some.injEq] at hcs
  obtain ⟨rfl, rfl, rfl⟩ := hcs
  simp only [if_true] at hmm
  have key : ∀ k, k ≤ len → ∃ l : List Deed4, l.length = k ∧ ∀ j u, (l.flatMap Deed4.cells)[j]? = some u → W.cell? ⟨b, o + j, none⟩ = some u := by
    intro k
    induction k with
    | zero => intro _; exact ⟨[], rfl, fun j u hj => by simp at hj⟩
    | succ k ih =>
      intro hk
      obtain ⟨l, hll, hlc⟩ := ih (by omega)
      obtain ⟨cs', hc, ht'⟩ := hi k (by omega)
      obtain ⟨x, rfl⟩ := deed4_fields ht'
      obtain ⟨_, _, hat⟩ := World.cells?_some hc
      rw [hC] at hat
      refine ⟨l ++ [x], by simp [hll], fun j u hj => ?_⟩
      rw [List.flatMap_append, List.flatMap_cons, List.flatMap_nil, List.append_nil] at hj
      by_cases hjl : j < (l.flatMap Deed4.cells).length
      · rw [List.getElem?_append_left hjl] at hj; exact hlc j u hj
      · rw [List.getElem?_append_right (by omega)] at hj
        rw [deeds4_length, hll] at hj hjl
        have hj4 : j - k * 4 < 4 := by
          have := (List.getElem?_eq_some_iff.1 hj).1
          simpa [Deed4.cells] using this
        have := hat (j - k * 4) hj4
        rw [add_lit, add_lit, hj] at this
        rw [← this]
        congr 2; omega
  obtain ⟨l, hll, hlc⟩ := key len (Nat.le_refl _)
  exact ⟨l, .inl ⟨b, o, len, cap, rfl, by rw [deeds4_length, hll], hl, hlc⟩⟩
set_option maxRecDepth 100000 in
theorem open_deed4 {v : Value} {d : DataW H} {p : List MemPlace} {W : World} {b0 : Nat} (hv : Value.okWide Try.prog W .any b0 23 v) (h : DataW.Trod enc Try.prog W 0 (fun _ => true) true 23 v d p) :
    ∃ x : Deed4, v = x.val := by
  obtain ⟨cs, rfl, hsz⟩ := okWide_struct Try.underlying23 hv
  obtain ⟨fuel, hf⟩ := h
  have hf' : DataW.trod enc Try.prog W 0 (fun _ => true) true fuel 23 cs.toList = some (d, p) := by simpa [Value.cells] using hf
  obtain ⟨y, hy⟩ := deed4_fields hf'
  refine ⟨y, ?_⟩
  rw [Deed4.val, show cs = y.cells.toArray by rw [← hy]]
  rfl
end
end Go.Proofs.Ytgmodahpcpepjaa
