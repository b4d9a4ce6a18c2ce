/- Texts of one claim, put together in their order: what each proves stands ahead of it. -/
import Derived.Test.YtgmodahpcpepjaaGreatMd
import Derived.Laws.CopyRow
/- A number is let go from a row of the cache's own. -/
namespace Go.Proofs.YtgmodahpcpepjaaGreat
open Go
set_option linter.unusedSimpArgs false
open Go.RowKit (intOf)
section rules
variable {P : Program} {k : Kont} {e : Env} {w : World} {l : List GOp} {d : Option Nat}
/-- clear, upon a part of a block. -/
theorem clearS_rule {x : Operand} {t el ty : TypeId} {bytes g o n c : Nat} {z : Value} {cur : Array Value} (he : ElemIs P t el 1 bytes z) (hx : ev e x = .slice (some ⟨g, o, none⟩) n c) (hb : w.heap[g]? = some (.cells cur el (0, 0))) (hn : 0 < n) (ho : o + n ≤ cur.size) (hz : isCell z = true)
    (h : ∀ w', Keep (fun b => b = g) w w' → w'.heap[g]? = some (.cells (cur.toList.take o ++ List.replicate n z ++ cur.toList.drop (o + n)).toArray el (0, 0)) → R (symOps P l k (updO e d (.tuple #[])) w')) :
    R (symOps P (⟨d, .hard (H (.call { callee := .builtin .clear, args := #[x], argTypes := #[t] }) ty), none⟩ :: l) k e w) := by
  obtain ⟨i, hi, hzz, hsz, hby⟩ := he.hi
  have hzc : (Builtin.zeroCells z.cells n).toList = List.replicate n z := by
    rw [isCell_cells hz]
    simp [Builtin.zeroCells]
    apply List.ext_getElem
    · simp
    · intro j h1 h2
      simp [Nat.mod_one]
  have hst := run_storeCells_at (P := P) g o el (List.replicate n z) 0 cur w hb (by simpa using ho) (fun v hv => by rw [List.eq_of_mem_replicate hv]; exact isCell_one hz)
  simp only [Nat.add_zero, List.length_replicate] at hst
  have hrr := setRow_heap w g cur ((List.take o cur.toList ++ List.replicate n z ++ List.drop (o + n) cur.toList).toArray) el (0, 0) hb
  have hkk : Keep (fun b => b = g) w (w.setRow g ((List.take o cur.toList ++ List.replicate n z ++ List.drop (o + n) cur.toList).toArray)) := ⟨rfl, rfl, rfl, by simp, fun k _ hk => setRow_other w g k _ hk⟩
  generalize w.setRow g ((List.take o cur.toList ++ List.replicate n z ++ List.drop (o + n) cur.toList).toArray) = w' at hst hrr hkk
  obtain ⟨m, rfl⟩ : ∃ m, n = m + 1 := ⟨n - 1, by omega⟩
  have hzv : ∀ w0, (zeroValue el).run P w0 = .ok z w0 := fun w0 => run_zeroValue w0 (by rw [hi]; exact hzz)
  exact hard_rule (run_builtin (vs := [.slice (some ⟨g, o, none⟩) (m + 1) c]) (by simp [hx]) (fun cs => by simp [builtin, Builtin.clear_, run_underlying he.ht, hzv, hzc, hst])) (h w' hkk hrr)
end rules
theorem enterDp {Φ : Value → World → Prop} {Ψ : List PanicEntry → World → Prop} {w : World} (v0 v1 : Value) (h : symS 7 Tryz.prog F83 ⟨fun e w => Φ (oneOf [e 3]) w, fun _ _ _ => False, fun e w => Φ (oneOf [e 3]) w, Ψ⟩ (upd (upd env0 0 v0) 1 v1) w) : Calls Tryz.prog 83 #[v0, v1] w (Out Φ Ψ) :=
  calls_sym (args := [v0, v1]) 7 [3] Tryz.func83 (by kernel_rfl) (by kernel_rfl) (by decide) (by kernel_rfl) (by kernel_rfl) (by simp) F83_eq h
theorem dropC_spec {w : World} {B n k : Nat} (hB : w.cell? ⟨B, 0, none⟩ = some (.int .i64 n)) :
    Calls Tryz.prog 83 #[.int .i64 k, .pointer (some ⟨B, 0, none⟩)] w (Ret fun v w' => v = .bool (decide (k = n)) ∧ w' = w) := by
  apply enterDp
  apply R_in
  by_cases h : k = n
  · subst h
    simp (maxSteps := 1000000) (disch := omega) only [↓sy1, sy2, sy3, readOK, sy5, sy6, Nat.reduceEqDiff, ↓reduceIte, sy7, sy8, sy9, sya, oneOf, syb, syc, Nat.reduceAdd, Nat.reduceMul, syd, sye, syf, syg, syh, reduceCtorEq, F83, hB, decide_true]
    exact R_out trivial
  · simp (maxSteps := 1000000) (disch := omega) only [↓sy1, sy2, sy3, readOK, sy5, sy6, Nat.reduceEqDiff, ↓reduceIte, sy7, sy8, sy9, sya, oneOf, syb, syc, Nat.reduceAdd, Nat.reduceMul, syd, sye, syf, syg, syh, reduceCtorEq, F83, hB, show ¬ ((k : Int) = (n : Int)) from by omega, decide_false]
    exact R_out (by simp [h])
abbrev dropF (B : Nat) : Value := .func (.func 83) #[] #[.pointer (some ⟨B, 0, none⟩)]
theorem dropI_spec {w : World} {B n : Nat} {v : Value} {l : List Nat} (hB : w.cell? ⟨B, 0, none⟩ = some (.int .i64 n)) (hv : HasI w v (zs l)) (hl : l.length ≤ 65) :
    Calls Tryz.prog 94 #[v, dropF B] w (Ret fun r w' => ((n ∉ l ∧ r = .int .i64 (-1)) ∨ ∃ i : Nat, r = .int .i64 i ∧ i < l.length ∧ (∀ h : i < l.length, l[i] = n) ∧ n ∉ l.take i) ∧ w' = w) := by
  have hcl : callable Tryz.prog 83 = true := by kernel_rfl
  have hlen : ∀ w', lenF w' 0 v = some (.int .i64 l.length) := fun w' => by rw [hv.lenI]; simp
  apply enter94
  apply R_in
  simp (maxSteps := 1000000) (disch := omega) only [↓sy1, sy2, sy3, readOK, sy5, sy6, Nat.reduceEqDiff, ↓reduceIte, sy7, sy8, sy9, sya, oneOf, syb, syc, Nat.reduceAdd, Nat.reduceMul, syd, sye, syf, syg, syh, reduceCtorEq, F94, hlen]
  refine loop_rule (fun e w' => ∃ i : Nat, i ≤ l.length ∧ e 8 = .int .i64 i ∧ e 7 = .int .i64 l.length ∧ e 0 = v ∧ e 1 = dropF B ∧ n ∉ l.take i ∧ w' = w) (fun e _ => l.length - (intOf (e 8)).toNat)
    ⟨0, by omega, by simp [upd, updO, ev], by simp [upd, updO, ev], by simp [upd, updO, ev], by simp [upd, updO, ev], by simp, rfl⟩ ?_
  rintro e w1 ⟨i, hi, e8, e7, e0, e1, hno, rfl⟩
  by_cases hlt : i < l.length
  · obtain ⟨a, ha, hac, _⟩ := hv.getI (l := zs l) (i := i) (by simpa using hlt)
    have hz : (zs l)[i]'(by simpa using hlt) = ((l[i] : Nat) : Int) := by simp
    rw [hz] at hac
    simp (maxSteps := 1000000) (disch := omega) only [↓sy1, sy2, sy3, readOK, sy5, sy6, Nat.reduceEqDiff, ↓reduceIte, sy7, sy8, sy9, sya, oneOf, syb, syc, Nat.reduceAdd, Nat.reduceMul, syd, sye, syf, syg, syh, reduceCtorEq, F94_L0, e8, e7, e0, e1, Int.ofNat_lt, hlt, decide_true, ha, hac]
    refine fvalc_rule hcl (cs := [.pointer (some ⟨B, 0, none⟩)]) (by simp only [upd_at, Nat.reduceEqDiff, reduceIte, ev_tmp, ev_const, List.map_cons, List.map_nil, e1]) (vs := [.int .i64 ((l[i] : Nat) : Int)]) (by simp only [upd_at, Nat.reduceEqDiff, reduceIte, ev_tmp, ev_const, List.map_cons, List.map_nil]) (dropC_spec hB) ?_
    rintro _ w2 ⟨rfl, rfl⟩
    by_cases h5 : l[i] = n
    · simp (maxSteps := 1000000) (disch := omega) only [↓sy1, sy2, sy3, readOK, sy5, sy6, Nat.reduceEqDiff, ↓reduceIte, sy7, sy8, sy9, sya, oneOf, syb, syc, Nat.reduceAdd, Nat.reduceMul, syd, sye, syf, syg, syh, reduceCtorEq, e8, e7, e0, e1, h5, decide_true]
      exact R_out (.inr ⟨i, rfl, hlt, fun _ => h5, hno⟩)
    · simp (maxSteps := 1000000) (disch := omega) only [↓sy1, sy2, sy3, readOK, sy5, sy6, Nat.reduceEqDiff, ↓reduceIte, sy7, sy8, sy9, sya, oneOf, syb, syc, Nat.reduceAdd, Nat.reduceMul, syd, sye, syf, syg, syh, reduceCtorEq, e8, e7, e0, e1, h5, decide_false]
      refine R_out ⟨⟨i + 1, by omega, rfl, fun hc => ?_⟩, ?_⟩
      · rw [List.take_succ_eq_append_getElem hlt] at hc
        rcases List.mem_append.1 hc with hc | hc
        · exact hno hc
        · simp at hc; exact h5 hc.symm
      · simp only [intOf]; omega
  · have hie : i = l.length := by omega
    subst hie
    rw [List.take_length] at hno
    simp (maxSteps := 1000000) (disch := omega) only [↓sy1, sy2, sy3, readOK, sy5, sy6, Nat.reduceEqDiff, ↓reduceIte, sy7, sy8, sy9, sya, oneOf, syb, syc, Nat.reduceAdd, Nat.reduceMul, syd, sye, syf, syg, syh, reduceCtorEq, F94_L0, e8, e7, e0, e1, Int.ofNat_lt, hlt, decide_false]
    exact R_out (.inl hno)
theorem filter_no {l : List Nat} {n : Nat} (h : n ∉ l) : l.filter (fun k => decide (k ≠ n)) = l := by
  rw [List.filter_eq_self]
  intro a ha
  simp
  exact fun hc => h (hc ▸ ha)
theorem ints_z_append (a b : List Nat) : ints (zs (a ++ b)) = ints (zs a) ++ ints (zs b) := by simp [ints, zs]
theorem ints_z_length (a : List Nat) : (ints (zs a)).length = a.length := by simp [ints, zs]
theorem own_slcToV {w : World} {B n m : Nat} {el : TypeId} {v : Value} {xs ys : List Value} (h : w.ownsRow B el 1 v n xs) (hm : m ≤ n) (hn : 0 < n) (hy : xs.take m = ys) :
    ∃ v', slcF 1 v none (some (.int .i64 m)) none = some v' ∧ w.ownsRow B el 1 v' m ys ∧ v'.ownBlock = v.ownBlock := by
  obtain ⟨h1, ⟨_, h2⟩ | ⟨g, cap, cur, rfl, h2, h3, h4, h5, h6, h7⟩⟩ := h
  · omega
  · refine ⟨.slice (some ⟨g, 0, none⟩) m cap, ?_, ⟨by rw [← hy]; simp at h1 ⊢; omega, .inr ⟨g, cap, cur, rfl, h2, h3, by omega, h5, h6, ?_⟩⟩, rfl⟩
    · simp only [slcF, slcV, bndV]
      rw [if_pos ⟨by omega, by omega⟩]
      simp [add_lit]
    · rw [← hy, ← h7, List.take_take, Nat.min_eq_left (by omega), Nat.mul_one]
/-- slices.DeleteFunc, upon a row of one's own. -/
theorem deleteF_spec {w : World} {B B0 n : Nat} {v : Value} {l : List Nat} (hB : w.cell? ⟨B, 0, none⟩ = some (.int .i64 n)) (hv : w.ownsRow B0 3 1 v l.length (ints (zs l))) (hvB : v.ownBlock ≠ some B) (hl : l.length ≤ 65) :
    Calls Tryz.prog 82 #[v, dropF B] w (Ret fun r w' => w'.ownsRow B0 3 1 r (l.filter fun k => decide (k ≠ n)).length (ints (zs (l.filter fun k => decide (k ≠ n)))) ∧ Keep (fun b => v.ownBlock = some b) w w' ∧ (∀ b, r.ownBlock = some b → v.ownBlock = some b)) := by
  have hcl : callable Tryz.prog 83 = true := by kernel_rfl
  have hlen : ∀ w', lenF w' 0 v = some (.int .i64 l.length) := fun w' => by rw [(Has.own hv).lenI]; simp
  apply enter82
  apply R_in
  simp (maxSteps := 1000000) (disch := omega) only [↓sy1, sy2, sy3, readOK, sy5, sy6, Nat.reduceEqDiff, ↓reduceIte, sy7, sy8, sy9, sya, oneOf, syb, syc, Nat.reduceAdd, Nat.reduceMul, syd, sye, syf, syg, syh, reduceCtorEq, F82]
  refine call0 (dropI_spec hB (Has.own hv) hl) ?_
  rintro r w1 ⟨⟨hno, rfl⟩ | ⟨i0, rfl, hi0, hli, hno⟩, rfl⟩
  · simp (maxSteps := 1000000) (disch := omega) only [↓sy1, sy2, sy3, readOK, sy5, sy6, Nat.reduceEqDiff, ↓reduceIte, sy7, sy8, sy9, sya, oneOf, syb, syc, Nat.reduceAdd, Nat.reduceMul, syd, sye, syf, syg, syh, reduceCtorEq, show ((-1 : Int) = -1) = True from by simp, decide_true]
    exact R_out ⟨by rw [filter_no hno]; exact hv, Keep.refl _ _⟩
  have hi1 : ¬ ((i0 : Int) = -1) := by omega
  simp (maxSteps := 1000000) (disch := omega) only [↓sy1, sy2, sy3, readOK, sy5, sy6, Nat.reduceEqDiff, ↓reduceIte, sy7, sy8, sy9, sya, oneOf, syb, syc, Nat.reduceAdd, Nat.reduceMul, syd, sye, syf, syg, syh, reduceCtorEq, hi1, decide_false]
  have hf0 : (l.take (i0 + 1)).filter (fun k => decide (k ≠ n)) = l.take i0 := by
    rw [List.take_succ_eq_append_getElem hi0, List.filter_append, filter_no hno, hli hi0]; simp
  refine loop_rule (fun e w' => ∃ (j : Nat) (M : List Nat), i0 < j ∧ j ≤ l.length ∧ e 6 = .int .i64 j ∧ e 5 = .int .i64 ((l.take j).filter fun k => decide (k ≠ n)).length ∧ e 0 = v ∧ e 1 = dropF B ∧ ((l.take j).filter fun k => decide (k ≠ n)).length + M.length = j ∧ 1 ≤ M.length ∧
      w'.ownsRow B0 3 1 v l.length (ints (zs ((l.take j).filter (fun k => decide (k ≠ n)) ++ M ++ l.drop j))) ∧ Keep (fun b => v.ownBlock = some b) w1 w') (fun e _ => l.length - (intOf (e 6)).toNat)
    ⟨i0 + 1, [n], by omega, by omega, by simp [upd, updO, ev], ?_, by simp [upd, updO, ev], by simp [upd, updO, ev], ?_, by simp, ?_, Keep.refl _ _⟩ ?_
  · rw [hf0, List.length_take, Nat.min_eq_left (by omega)]; simp [upd, updO, ev]
  · rw [hf0, List.length_take, Nat.min_eq_left (by omega)]; simp
  · rw [hf0]
    have : l.take i0 ++ [n] ++ l.drop (i0 + 1) = l := by
      rw [← hli hi0, ← List.take_succ_eq_append_getElem hi0, List.take_append_drop]
    rw [this]; exact hv
  rintro e w2 ⟨j, M, hij, hj, e6, e5, e0, e1, hfm, hm1, ho2, hk2⟩
  have hlf := List.length_filter_le (fun k => decide (k ≠ n)) (l.take j)
  have hB2 : w2.cell? ⟨B, 0, none⟩ = some (.int .i64 n) := hk2.cell hB hvB
  generalize hF : (l.take j).filter (fun k => decide (k ≠ n)) = F at e5 hfm ho2 hlf
  have hFl : F.length ≤ 65 := by rw [List.length_take] at hlf; omega
  by_cases hlt : j < l.length
  · have hdrop : l.drop j = l[j] :: l.drop (j + 1) := List.drop_eq_getElem_cons hlt
    have htake : (l.take (j + 1)).filter (fun k => decide (k ≠ n)) = F ++ [l[j]].filter (fun k => decide (k ≠ n)) := by
      rw [List.take_succ_eq_append_getElem hlt, List.filter_append, hF]
    have hlenX : (F ++ M ++ l.drop j).length = l.length := by simp; omega
    have hget : (F ++ M ++ l.drop j)[j]'(by omega) = l[j] := by
      rw [List.getElem_append_right (by simp; omega)]
      simp only [List.length_append, hfm, Nat.sub_self, hdrop, List.getElem_cons_zero]
    obtain ⟨a, ha, hac, _⟩ := (Has.own ho2).getI (l := zs (F ++ M ++ l.drop j)) (i := j) (by simp; omega)
    have hz : (zs (F ++ M ++ l.drop j))[j]'(by simp; omega) = ((l[j] : Nat) : Int) := by rw [← hget]; simp only [zs, List.getElem_map]
    rw [hz] at hac
    simp (maxSteps := 1000000) (disch := omega) only [↓sy1, sy2, sy3, readOK, sy5, sy6, Nat.reduceEqDiff, ↓reduceIte, sy7, sy8, sy9, sya, oneOf, syb, syc, Nat.reduceAdd, Nat.reduceMul, syd, sye, syf, syg, syh, reduceCtorEq, F82_L0, e6, e5, e0, e1, hlen, Int.ofNat_lt, hlt, decide_true, ha, hac]
    refine fvalc_rule hcl (cs := [.pointer (some ⟨B, 0, none⟩)]) (by simp only [upd_at, Nat.reduceEqDiff, reduceIte, ev_tmp, ev_const, List.map_cons, List.map_nil, e1]) (vs := [.int .i64 ((l[j] : Nat) : Int)]) (by simp only [upd_at, Nat.reduceEqDiff, reduceIte, ev_tmp, ev_const, List.map_cons, List.map_nil]) (dropC_spec hB2) ?_
    rintro _ w3 ⟨rfl, rfl⟩
    by_cases h5 : l[j] = n
    · simp (maxSteps := 1000000) (disch := omega) only [↓sy1, sy2, sy3, readOK, sy5, sy6, Nat.reduceEqDiff, ↓reduceIte, sy7, sy8, sy9, sya, oneOf, syb, syc, Nat.reduceAdd, Nat.reduceMul, syd, sye, syf, syg, syh, reduceCtorEq, e6, e5, e0, e1, h5, decide_true]
      have htake' : (l.take (j + 1)).filter (fun k => decide (k ≠ n)) = F := by rw [htake, h5]; simp
      refine R_out ⟨⟨j + 1, M ++ [l[j]], by omega, by omega, rfl, by rw [htake'], by rw [htake']; simp; omega, by simp, ?_, hk2⟩, ?_⟩
      · rw [htake']
        have : F ++ (M ++ [l[j]]) ++ l.drop (j + 1) = F ++ M ++ l.drop j := by rw [hdrop]; simp
        rw [this]; exact ho2
      · simp only [intOf]; omega
    · have htake' : (l.take (j + 1)).filter (fun k => decide (k ≠ n)) = F ++ [l[j]] := by rw [htake]; simp [h5]
      obtain ⟨m0, Mt, rfl⟩ : ∃ m0 Mt, M = m0 :: Mt := by
        cases M with
        | nil => simp at hm1
        | cons a b => exact ⟨a, b, rfl⟩
      obtain ⟨a2, w4, ha2, hst, ho4, hk4, _⟩ := own_store ho2 (i := F.length) (by omega) (u := .int .i64 ((l[j] : Nat) : Int)) rfl
      simp (maxSteps := 1000000) (disch := omega) only [↓sy1, sy2, sy3, readOK, sy5, sy6, Nat.reduceEqDiff, ↓reduceIte, sy7, sy8, sy9, sya, oneOf, syb, syc, Nat.reduceAdd, Nat.reduceMul, syd, sye, syf, syg, syh, reduceCtorEq, e6, e5, e0, e1, h5, decide_false, ha2, hst]
      refine R_out ⟨⟨j + 1, Mt ++ [l[j]], by omega, by omega, rfl, by rw [htake']; simp, by rw [htake']; simp at hfm ⊢; omega, by simp, ?_, hk2.trans hk4⟩, ?_⟩
      · rw [htake']
        have hset : (ints (zs (F ++ m0 :: Mt ++ l.drop j))).set F.length (.int .i64 ((l[j] : Nat) : Int)) = ints (zs (F ++ [l[j]] ++ (Mt ++ [l[j]]) ++ l.drop (j + 1))) := by
          rw [hdrop]
          simp only [ints, zs, List.map_append, List.map_cons, List.append_assoc, List.cons_append, List.nil_append, List.map_nil]
          rw [List.set_append_right _ _ (by simp)]
          simp
        rw [← hset]; exact ho4
      · simp only [intOf]; omega
  · have hje : j = l.length := by omega
    subst hje
    rw [List.take_length] at hF
    rw [List.drop_length, List.append_nil] at ho2
    obtain ⟨q1, ⟨_, q2⟩ | ⟨g, cap, cur, rfl, q2, q3, q4, q5, q6, q7⟩⟩ := ho2
    · omega
    · have hsl : slcF 1 (.slice (some ⟨g, 0, none⟩) l.length cap) (some (.int .i64 F.length)) none none = some (.slice (some ⟨g, F.length, none⟩) (l.length - F.length) (cap - F.length)) := by
        simp only [slcF, slcV, bndV]
        simp only [Option.isSome_none, Bool.false_eq_true, if_false]
        rw [if_pos ⟨by omega, by omega⟩]
        have : ¬ (cap = F.length) := by omega
        simp [add_lit, this]
      simp (maxSteps := 1000000) (disch := omega) only [↓sy1, sy2, sy3, readOK, sy5, sy6, Nat.reduceEqDiff, ↓reduceIte, sy7, sy8, sy9, sya, oneOf, syb, syc, Nat.reduceAdd, Nat.reduceMul, syd, sye, syf, syg, syh, reduceCtorEq, F82_L0, e6, e5, e0, e1, hlen, Int.ofNat_lt, hlt, decide_false, hsl]
      refine clearS_rule (g := g) (o := F.length) (n := l.length - F.length) (c := cap - F.length) elemI (by simp only [upd_at, Nat.reduceEqDiff, reduceIte, ev_tmp, ev_const, List.map_cons, List.map_nil]) q3 (by omega) (by omega) rfl ?_
      intro w3 hk3 hb3
      have ho3 : w3.ownsRow B0 3 1 (.slice (some ⟨g, 0, none⟩) F.length cap) F.length (ints (zs F)) := by
        refine ⟨by simp [ints, zs], .inr ⟨g, cap, _, rfl, q2, hb3, by omega, q5, ?_, ?_⟩⟩
        · simp; omega
        · have h1 : cur.toList.take F.length = ints (zs F) := by
            have h2 : (cur.toList.take (l.length * 1)).take F.length = ints (zs F) := by
              rw [q7, ints_z_append, List.take_left' (by simp [ints, zs])]
            rwa [List.take_take, Nat.min_eq_left (by omega)] at h2
          simp only [List.toList_toArray, Nat.mul_one]
          rw [h1, List.append_assoc, List.take_left' (by simp [ints, zs])]
      have hsl2 : slcF 1 (.slice (some ⟨g, 0, none⟩) l.length cap) none (some (.int .i64 F.length)) none = some (.slice (some ⟨g, 0, none⟩) F.length cap) := by
        simp only [slcF, slcV, bndV]
        rw [if_pos ⟨by omega, by omega⟩]
        simp [add_lit]
      simp (maxSteps := 1000000) (disch := omega) only [↓sy1, sy2, sy3, readOK, sy5, sy6, Nat.reduceEqDiff, ↓reduceIte, sy7, sy8, sy9, sya, oneOf, syb, syc, Nat.reduceAdd, Nat.reduceMul, syd, sye, syf, syg, syh, reduceCtorEq, e6, e5, e0, e1, hsl2]
      refine R_out ⟨by rw [hF]; exact ho3, hk2.trans (hk3.mono (fun b hb h => by subst h; rfl)), fun b hb => hb⟩
end Go.Proofs.YtgmodahpcpepjaaGreat

/- A cache: a clean page is let go; its room, its log, what is told. -/
namespace Go.Proofs.YtgmodahpcpepjaaGreat
open Go
set_option linter.unusedSimpArgs false
open Go.RowKit (intOf)
theorem underM : Tryz.prog.underlying 71 = some (.map 3 62) := by kernel_rfl
theorem underI : Tryz.prog.underlying 3 = some (.int .i64) := by kernel_rfl
theorem Ext.onS0 {S : Nat → Prop} {G : Gh} {w w' : World} {μ : Nat} (hk : Keep S w w') (ho : ∀ b, S b → G.own b = μ ∧ G.fix b = 0) : Ext (fun c => c = μ) G w G w' := by
  refine ⟨hk.os, hk.tape, hk.output, hk.size, fun _ _ => rfl, fun _ _ => Nat.le_refl _, fun _ _ _ => rfl, fun b hb hn => hk.blk b hb (fun h => hn (ho b h).1), fun b i v' hb hi hc => ?_⟩
  by_cases hv : S b
  · have := (ho b hv).2; omega
  · exact hk.cell hc hv
section
variable {G : Gh} {κ μ p lq size came most : Nat} {w : World} {D : Dsk} {q cq : Nat → Option (List UInt8)} {row : List Nat}
set_option maxHeartbeats 2000000 in
theorem drop_spec (h : CacheM G κ μ w p lq size came D most q cq row) (n : Nat) :
    Calls Tryz.prog 59 #[.pointer (some ⟨p, 0, none⟩), .int .i64 n] w (Ret fun _ w' => CacheM G κ μ w' p lq size came D most q (qdel cq n) (row.filter fun k => decide (k ≠ n)) ∧ Ext (fun c => c = μ) G w G w') := by
  obtain ⟨h1, h2, h3, h4, dm, cm, rv, h5, h6, h7, h8, h9, h10, h11⟩ := h
  have hrc := h11.has.isCell
  apply enter59
  apply R_in
  have hg1 : Grow w (w.alloc (.cells #[.int .i64 n] 3)) := (Keep.refl _ _).alloc _
  have hb1 := heap_alloc_new w (.cells #[.int .i64 n] 3)
  have hBne : rv.ownBlock ≠ some w.heap.size := fun hc => by have := (World.ownsRow.lt h11.1 _ hc).2; omega
  have hpB : p ≠ w.heap.size := by have := (Array.getElem?_eq_some_iff.1 h5).1; omega
  have hcmB : cm ≠ w.heap.size := by have := h10.lt; omega
  have hce : (Value.int .i64 (n : Int)).cells = #[.int .i64 n] := isCell_cells rfl
  have hp1 := hg1.gheap h5
  generalize hwa : w.alloc (.cells #[.int .i64 n] 3) = w1 at hg1 hb1 hp1
  have hc4 : w1.cell? ⟨p, 4, none⟩ = some rv := by rw [cell_block hp1]; rfl
  simp (maxSteps := 1000000) (disch := omega) only [↓sy1, sy2, sy3, readOK, sy5, sy6, Nat.reduceEqDiff, ↓reduceIte, sy7, sy8, sy9, sya, oneOf, syb, syc, Nat.reduceAdd, Nat.reduceMul, syd, sye, syf, syg, syh, reduceCtorEq, F59, hce, hwa, hc4]
  generalize w.heap.size = B at hb1 hBne hpB hcmB ⊢
  have hBc : w1.cell? ⟨B, 0, none⟩ = some (.int .i64 n) := by rw [cell_block hb1]; rfl
  have h11a := h11.ext (K := fun _ => False) (.grow hg1) id
  refine call0 (deleteF_spec hBc h11a.1 hBne h3) ?_
  rintro r w2 ⟨hr2, hk2, hrb⟩
  have hx2 : Ext (fun c => c = μ) G w1 G w2 := .onS0 hk2 (fun b hb => h11.2 b hb)
  have hp2 := hk2.heap hp1 (h11a.ne hp1 (fun c t f hc => by cases hc; decide))
  have hmapne : ∀ {m : Nat} {q : Nat → Option (List UInt8)}, BMap G μ w m q → rv.ownBlock ≠ some m := fun {m q} hm => by
    obtain ⟨es, clk, k1, _⟩ := hm
    exact h11.ne k1 (fun c t f hc => by cases hc)
  have h9b : BMap G μ w2 dm q := (h9.grow hg1).move hx2 (hk2.blk dm (h9.grow hg1).lt (hmapne h9)) rfl rfl
  have h10b : BMap G μ w2 cm cq := (h10.grow hg1).move hx2 (hk2.blk cm (h10.grow hg1).lt (hmapne h10)) rfl rfl
  have h4b : LogAt G κ w2 lq size came D := (h4.grow hg1).ext hx2 h1 (fun h => h2 h.symm)
  have hrc2 : isCell r = true := (Has.own hr2).isCell
  obtain ⟨w3, hst, hp3, hk3⟩ := cell_store hp2 (i := 4) (by simp) (u := r) hrc2
  have hp3' : w3.heap[p]? = some (.cells #[.pointer (some ⟨lq, 0, none⟩), .int .i64 most, .map (some dm), .map (some cm), r] 73 (0, 0)) := by simpa using hp3
  have hx3 : Ext (fun c => c = μ) G w2 G w3 := .on0 hk3 h6 h7
  have hrow2 : RowI G μ w2 r (row.filter fun k => decide (k ≠ n)) := ⟨hr2, fun b hb => h11.2 b (hrb b hb)⟩
  have hpm : ∀ {m : Nat} {q : Nat → Option (List UInt8)}, BMap G μ w2 m q → m ≠ p := fun {m q} hm hc => by
    obtain ⟨es, clk, k1, _⟩ := hm
    rw [hc, hp2] at k1; cases k1
  have h9c := h9b.keep1 hk3 (hpm h9b) h6 h7
  have h10c := h10b.keep1 hk3 (hpm h10b) h6 h7
  have h4c := h4b.ext hx3 h1 (fun h => h2 h.symm)
  have hrow3 := hrow2.keep1 hk3 (hrow2.ne hp2 (fun c t f hc => by cases hc; decide))
  have hBc3 : w3.cell? ⟨B, 0, none⟩ = some (.int .i64 n) := hk3.cell (hk2.cell hBc hBne) (fun hc => hpB hc.symm)
  simp (maxSteps := 1000000) (disch := omega) only [↓sy1, sy2, sy3, readOK, sy5, sy6, Nat.reduceEqDiff, ↓reduceIte, sy7, sy8, sy9, sya, oneOf, syb, syc, Nat.reduceAdd, Nat.reduceMul, syd, sye, syf, syg, syh, reduceCtorEq, hst]
  refine draw59_0 (fun _ => False) ?_
  have hgd : Grow w3 w3.drew := (Keep.refl _ _).drew
  generalize w3.drew = w4 at hgd ⊢
  have hp4 := hgd.gheap hp3'
  have hc3 : w4.cell? ⟨p, 3, none⟩ = some (.map (some cm)) := by rw [cell_block hp4]; rfl
  have hBc4 := hgd.gcell hBc3
  simp (maxSteps := 1000000) (disch := omega) only [↓sy1, sy2, sy3, readOK, sy5, sy6, Nat.reduceEqDiff, ↓reduceIte, sy7, sy8, sy9, sya, oneOf, syb, syc, Nat.reduceAdd, Nat.reduceMul, syd, sye, syf, syg, syh, reduceCtorEq, PL59_0, hc3, hBc4]
  refine (h10c.grow hgd).del (n := n) (by simp only [upd_at, Nat.reduceEqDiff, reduceIte, ev_tmp, ev_const, List.map_cons, List.map_nil]) (by simp only [upd_at, Nat.reduceEqDiff, reduceIte, ev_tmp, ev_const, List.map_cons, List.map_nil]) underM underI (fun w5 hx5 hk5 h10d => ?_)
  have hpcm : p ≠ cm := fun hc => hpm h10b hc.symm
  have h9d := (h9c.grow hgd).keep1 hk5 h8 (by obtain ⟨es, clk, _, k2, _⟩ := h10c; exact k2) (by obtain ⟨es, clk, _, _, k3, _⟩ := h10c; exact k3)
  have hrow5 : RowI G μ w5 r (row.filter fun k => decide (k ≠ n)) := (hrow3.ext (K := fun _ => False) (.grow hgd) id).keep1 hk5 (by
    obtain ⟨es, clk, k1, _⟩ := h10c.grow hgd
    exact (hrow3.ext (K := fun _ => False) (.grow hgd) id).ne k1 (fun c t f hc => by cases hc))
  have hlf := List.length_filter_le (fun k => decide (k ≠ n)) row
  simp (maxSteps := 1000000) (disch := omega) only [↓sy1, sy2, sy3, readOK, sy5, sy6, Nat.reduceEqDiff, ↓reduceIte, sy7, sy8, sy9, sya, oneOf, syb, syc, Nat.reduceAdd, Nat.reduceMul, syd, sye, syf, syg, syh, reduceCtorEq]
  exact R_out ⟨⟨h1, h2, by omega, (h4c.grow hgd).ext hx5 h1 (fun h => h2 h.symm), dm, cm, r, hk5.heap hp4 hpcm, h6, h7, h8, h9d, h10d, hrow5⟩, (Ext.grow hg1).trans (hx2.trans (hx3.trans ((Ext.grow hgd).trans hx5)))⟩
/-- A page's number is looked at. -/
theorem look_okC (h : CacheM G κ μ w p lq size came D most q cq row) {n : Nat} (hn : n < D.first.length - size - 1) :
    Calls Tryz.prog 57 #[.pointer (some ⟨p, 0, none⟩), .int .i64 n] w (Ret fun v w' => v = .int .i64 0 ∧ Grow w w') := by
  obtain ⟨dm, cm, rv, hc⟩ := h.cells
  apply enter57
  apply R_in
  simp (maxSteps := 1000000) (disch := omega) only [↓sy1, sy2, sy3, readOK, sy5, sy6, Nat.reduceEqDiff, ↓reduceIte, sy7, sy8, sy9, sya, oneOf, syb, syc, Nat.reduceAdd, Nat.reduceMul, syd, sye, syf, syg, syh, reduceCtorEq, F57, show ¬ ((n : Int) < 0) from by omega, decide_false, (hc (Keep.refl _ _)).1]
  refine call0 (pages_spec h.log) ?_
  rintro _ w1 ⟨rfl, hg1⟩
  simp (maxSteps := 1000000) (disch := omega) only [↓sy1, sy2, sy3, readOK, sy5, sy6, Nat.reduceEqDiff, ↓reduceIte, sy7, sy8, sy9, sya, oneOf, syb, syc, Nat.reduceAdd, Nat.reduceMul, syd, sye, syf, syg, syh, reduceCtorEq, show ¬ (((D.first.length - size - 1 : Nat) : Int) ≤ (n : Int)) from by omega, decide_false]
  exact R_out hg1
theorem look_badC (h : CacheM G κ μ w p lq size came D most q cq row) {n : Int} (hn : n < 0 ∨ ((D.first.length - size - 1 : Nat) : Int) ≤ n) :
    Calls Tryz.prog 57 #[.pointer (some ⟨p, 0, none⟩), .int .i64 n] w (Ret fun v w' => v = .int .i64 2 ∧ Grow w w') := by
  obtain ⟨dm, cm, rv, hc⟩ := h.cells
  apply enter57
  apply R_in
  by_cases h0 : n < 0
  · simp (maxSteps := 1000000) (disch := omega) only [↓sy1, sy2, sy3, readOK, sy5, sy6, Nat.reduceEqDiff, ↓reduceIte, sy7, sy8, sy9, sya, oneOf, syb, syc, Nat.reduceAdd, Nat.reduceMul, syd, sye, syf, syg, syh, reduceCtorEq, F57, h0, decide_true]
    exact R_out (Keep.refl _ _)
  · simp (maxSteps := 1000000) (disch := omega) only [↓sy1, sy2, sy3, readOK, sy5, sy6, Nat.reduceEqDiff, ↓reduceIte, sy7, sy8, sy9, sya, oneOf, syb, syc, Nat.reduceAdd, Nat.reduceMul, syd, sye, syf, syg, syh, reduceCtorEq, F57, h0, decide_false, (hc (Keep.refl _ _)).1]
    refine call0 (pages_spec h.log) ?_
    rintro _ w1 ⟨rfl, hg1⟩
    simp (maxSteps := 1000000) (disch := omega) only [↓sy1, sy2, sy3, readOK, sy5, sy6, Nat.reduceEqDiff, ↓reduceIte, sy7, sy8, sy9, sya, oneOf, syb, syc, Nat.reduceAdd, Nat.reduceMul, syd, sye, syf, syg, syh, reduceCtorEq, show (((D.first.length - size - 1 : Nat) : Int) ≤ n) from by omega, decide_true]
    exact R_out hg1
theorem room_spec {c : Csh} (h : CacheAt G κ μ w p lq came c) :
    Calls Tryz.prog 12 #[.pointer (some ⟨p, 0, none⟩)] w (Ret fun v w' => v = .int .i64 ((c.cap : Int) - c.dirty.length) ∧ Grow w w') := by
  obtain ⟨hok, h⟩ := h
  obtain ⟨dm, cm, rv, hc⟩ := h.cells
  have hroom := hok.room
  simp only [Csh.cap, Csh.dirty] at hroom
  apply enter12
  apply R_in
  simp (maxSteps := 1000000) (disch := omega) only [↓sy1, sy2, sy3, readOK, sy5, sy6, Nat.reduceEqDiff, ↓reduceIte, sy7, sy8, sy9, sya, oneOf, syb, syc, Nat.reduceAdd, Nat.reduceMul, syd, sye, syf, syg, syh, reduceCtorEq, F12]
  refine draw12_0 (fun _ => False) ?_
  have hgd : Grow w w.drew := (Keep.refl _ _).drew
  generalize w.drew = w1 at hgd ⊢
  obtain ⟨c0, c1, c2, c3, c4, hdm, hcm, hrow⟩ := hc hgd
  have hlen := hdm.len (N := c.N) (fun n b hb => (hok.q n b hb).1)
  simp (maxSteps := 1000000) (disch := omega) only [↓sy1, sy2, sy3, readOK, sy5, sy6, Nat.reduceEqDiff, ↓reduceIte, sy7, sy8, sy9, sya, oneOf, syb, syc, Nat.reduceAdd, Nat.reduceMul, syd, sye, syf, syg, syh, reduceCtorEq, PL12_0, c0, c2]
  refine call0 (capacity_spec (h.log.grow hgd)) ?_
  rintro _ w2 ⟨rfl, rfl⟩
  simp (maxSteps := 1000000) (disch := omega) only [↓sy1, sy2, sy3, readOK, sy5, sy6, Nat.reduceEqDiff, ↓reduceIte, sy7, sy8, sy9, sya, oneOf, syb, syc, Nat.reduceAdd, Nat.reduceMul, syd, sye, syf, syg, syh, reduceCtorEq, hlen]
  refine ⟨Keep.refl _ _, ?_⟩
  refine R_out ⟨?_, hgd⟩
  simp only [Csh.cap, Csh.dirty]
theorem clog_spec {c : Csh} (h : CacheAt G κ μ w p lq came c) :
    Calls Tryz.prog 15 #[.pointer (some ⟨p, 0, none⟩)] w (Ret fun v w' => v = .pointer (some ⟨lq, 0, none⟩) ∧ w' = w) := by
  obtain ⟨dm, cm, rv, hc⟩ := h.2.cells
  apply enter15
  apply R_in
  simp (maxSteps := 1000000) (disch := omega) only [↓sy1, sy2, sy3, readOK, sy5, sy6, Nat.reduceEqDiff, ↓reduceIte, sy7, sy8, sy9, sya, oneOf, syb, syc, Nat.reduceAdd, Nat.reduceMul, syd, sye, syf, syg, syh, reduceCtorEq, F15, (hc (Keep.refl _ _)).1]
  exact R_out trivial
theorem abort_spec {c : Csh} (h : CacheAt G κ μ w p lq came c) :
    Calls Tryz.prog 36 #[.pointer (some ⟨p, 0, none⟩)] w (Ret fun v w' => v = .int .i64 c.dirty.length ∧ CacheAt G κ μ w' p lq came c.abort ∧ Ext (fun x => x = μ) G w G w') := by
  obtain ⟨hok, h⟩ := h
  obtain ⟨h1, h2, h3, h4, dm, cm, rv, h5, h6, h7, h8, h9, h10, h11⟩ := h
  have hlen := h9.len (N := c.N) (fun n b hb => (hok.q n b hb).1)
  have hc2 : w.cell? ⟨p, 2, none⟩ = some (.map (some dm)) := by rw [cell_block h5]; rfl
  apply enter36
  apply R_in
  simp (maxSteps := 1000000) (disch := omega) only [↓sy1, sy2, sy3, readOK, sy5, sy6, Nat.reduceEqDiff, ↓reduceIte, sy7, sy8, sy9, sya, oneOf, syb, syc, Nat.reduceAdd, Nat.reduceMul, syd, sye, syf, syg, syh, reduceCtorEq, F36, hc2, hlen]
  refine h9.clear (by simp only [upd_at, Nat.reduceEqDiff, reduceIte, ev_tmp, ev_const, List.map_cons, List.map_nil]) underM (fun w1 hx1 hk1 h9' => ?_)
  have hpm : p ≠ dm := fun hc => by
    obtain ⟨es, clk, k1, _⟩ := h9
    rw [← hc, h5] at k1; cases k1
  have hdo : G.own dm = μ ∧ G.fix dm = 0 := by obtain ⟨es, clk, _, k2, k3, _⟩ := h9; exact ⟨k2, k3⟩
  have hrow : RowI G μ w1 rv c.row := h11.keep1 hk1 (by
    obtain ⟨es, clk, k1, _⟩ := h9
    exact h11.ne k1 (fun c t f hc => by cases hc))
  simp (maxSteps := 1000000) (disch := omega) only [↓sy1, sy2, sy3, readOK, sy5, sy6, Nat.reduceEqDiff, ↓reduceIte, sy7, sy8, sy9, sya, oneOf, syb, syc, Nat.reduceAdd, Nat.reduceMul, syd, sye, syf, syg, syh, reduceCtorEq]
  exact R_out ⟨rfl, ⟨hok.abort, h1, h2, h3, h4.ext hx1 h1 (fun h => h2 h.symm), dm, cm, rv, hk1.heap h5 hpm, h6, h7, h8, h9', h10.keep1 hk1 (fun h => h8 h.symm) hdo.1 hdo.2, hrow⟩, hx1⟩
end
end Go.Proofs.YtgmodahpcpepjaaGreat

/- A cache: a page is read, a page is written. -/
namespace Go.Proofs.YtgmodahpcpepjaaGreat
open Go
set_option linter.unusedSimpArgs false
open Go.RowKit (intOf)
section
variable {G : Gh} {κ μ p lq came : Nat} {w : World} {c : Csh}
theorem image_page (h : c.Ok) {n : Nat} (hn : n < c.N) : c.D.image[c.size + 1 + n]'(by rw [Dsk.image_length]; simp only [Csh.N] at hn; omega) = c.D.image.getD (c.size + 1 + n) [] := by
  have hl : c.size + 1 + n < c.D.image.length := by rw [Dsk.image_length]; simp only [Csh.N] at hn; omega
  rw [List.getD_eq_getElem?_getD, List.getElem?_eq_getElem hl]; rfl
theorem page_len (h : c.Ok) {n : Nat} (hn : n < c.N) : (c.D.image.getD (c.size + 1 + n) []).length = 512 := by
  rw [← image_page h hn]; exact h.ok.image _ (List.getElem_mem _)
theorem drop_first {l : List Nat} (h : l.Nodup) (hl : 0 < l.length) : l.filter (fun k => decide (k ≠ l[0])) = l.drop 1 := by
  cases l with
  | nil => simp at hl
  | cons a l =>
    have ha : a ∉ l := (List.nodup_cons.1 h).1
    simp only [List.getElem_cons_zero, List.drop_succ_cons, List.drop_zero]
    rw [List.filter_cons]
    simp only [ne_eq, not_true_eq_false, decide_false, Bool.false_eq_true, if_false]
    exact filter_no ha
theorem cread_badC (h : CacheAt G κ μ w p lq came c) {n : Int} (hn : n < 0 ∨ (c.N : Int) ≤ n) :
    Calls Tryz.prog 28 #[.pointer (some ⟨p, 0, none⟩), .int .i64 n] w (Ret fun v w' => v = .tuple #[.slice none 0 0, .int .i64 2] ∧ Grow w w') := by
  apply enter28
  apply R_in
  simp (maxSteps := 1000000) (disch := omega) only [↓sy1, sy2, sy3, readOK, sy5, sy6, Nat.reduceEqDiff, ↓reduceIte, sy7, sy8, sy9, sya, oneOf, syb, syc, Nat.reduceAdd, Nat.reduceMul, syd, sye, syf, syg, syh, reduceCtorEq, F28]
  refine call0 (look_badC h.2 hn) ?_
  rintro _ w1 ⟨rfl, hg1⟩
  simp (maxSteps := 1000000) (disch := omega) only [↓sy1, sy2, sy3, readOK, sy5, sy6, Nat.reduceEqDiff, ↓reduceIte, sy7, sy8, sy9, sya, oneOf, syb, syc, Nat.reduceAdd, Nat.reduceMul, syd, sye, syf, syg, syh, reduceCtorEq, show ¬ ((2 : Int) = 0) from by omega, decide_false, Bool.not_false]
  exact R_out hg1
set_option maxHeartbeats 4000000 in
theorem cread_strong (h : CacheAt G κ μ w p lq came c) {n : Nat} (hn : n < c.N) :
    Calls Tryz.prog 28 #[.pointer (some ⟨p, 0, none⟩), .int .i64 n] w (Ret fun v w' => ∃ u G' w1, v = .tuple #[u, .int .i64 0] ∧ w'.ownsRow w1.heap.size 5 1 u 512 (bs (c.page n)) ∧ CacheAt G' κ μ w1 p lq came (c.read n) ∧ Ext (fun x => x = μ) G w G' w1 ∧ Grow w1 w') := by
  obtain ⟨hok, hM⟩ := h
  have hokr := hok.read hn
  have hpl := page_len hok hn
  have hN : c.N = c.D.first.length - c.size - 1 := rfl
  have hfew := hok.few
  have hm1 := hok.m1
  have hm2 := hok.m2
  apply enter28
  apply R_in
  simp (maxSteps := 1000000) (disch := omega) only [↓sy1, sy2, sy3, readOK, sy5, sy6, Nat.reduceEqDiff, ↓reduceIte, sy7, sy8, sy9, sya, oneOf, syb, syc, Nat.reduceAdd, Nat.reduceMul, syd, sye, syf, syg, syh, reduceCtorEq, F28]
  refine call0 (look_okC hM (n := n) (by omega)) ?_
  rintro _ w1 ⟨rfl, hg1⟩
  have hM1 := hM.grow hg1
  obtain ⟨dm, cm, rv, hc⟩ := hM1.cells
  obtain ⟨c0, c1, c2, c3, c4, hdm, hcm, hrow⟩ := hc (Keep.refl _ _)
  rcases hdm.find n with ⟨hq, hlk⟩ | ⟨b, v, hq, hv, hlk⟩
  rotate_left
  · simp (maxSteps := 1000000) (disch := omega) only [↓sy1, sy2, sy3, readOK, sy5, sy6, Nat.reduceEqDiff, ↓reduceIte, sy7, sy8, sy9, sya, oneOf, syb, syc, Nat.reduceAdd, Nat.reduceMul, syd, sye, syf, syg, syh, reduceCtorEq, c2, (hlk (.slice none 0 0)).2, decide_true, Bool.not_true]
    have hb5 := (hok.q n b hq).2
    refine call0 (bytesClone_spec v b w1 hv.1.1 (by omega)) ?_
    rintro u w2 ⟨hu, hg2⟩
    simp (maxSteps := 1000000) (disch := omega) only [↓sy1, sy2, sy3, readOK, sy5, sy6, Nat.reduceEqDiff, ↓reduceIte, sy7, sy8, sy9, sya, oneOf, syb, syc, Nat.reduceAdd, Nat.reduceMul, syd, sye, syf, syg, syh, reduceCtorEq]
    have hpg : c.page n = b := by simp [Csh.page, hq]
    have hrd : c.read n = c := by simp [Csh.read, hq]
    rw [hpg, hrd]
    rw [hb5] at hu
    exact R_out ⟨u, G, w1, rfl, hu, ⟨hok, hM1⟩, .grow hg1, hg2⟩
  have hpg : c.page n = c.D.image.getD (c.size + 1 + n) [] := by simp [Csh.page, hq]
  have hrd : c.read n = { c with row := touch c.row n c.most } := by simp [Csh.read, hq]
  rw [hpg]
  rw [hrd] at hokr ⊢
  have hclean : ∀ m, cleanQ c.D c.size c.row m = (if m ∈ c.row then some (c.D.image.getD (c.size + 1 + m) []) else none) := fun m => rfl
  rcases hcm.find n with ⟨hcq, hclk⟩ | ⟨b, v, hcq, hv, hclk⟩
  all_goals first
    | (
      simp (maxSteps := 1000000) (disch := omega) only [↓sy1, sy2, sy3, readOK, sy5, sy6, Nat.reduceEqDiff, ↓reduceIte, sy7, sy8, sy9, sya, oneOf, syb, syc, Nat.reduceAdd, Nat.reduceMul, syd, sye, syf, syg, syh, reduceCtorEq, c2, (hlk (.slice none 0 0)).2, decide_true, Bool.not_true, c3, (hclk (.slice none 0 0)).2, c0, Bool.not_false]
      refine call0 (lread_spec hM1.log (n := n) (by omega)) ?_
      rintro _ w2 ⟨bv, rfl, hbv, hg2⟩
      rw [image_page hok hn] at hbv
      have hx2 : Ext0 G w1 (G.upto w1.heap.size (fun _ => 0) (fun _ => maxLen)) w2 := .upto hg2 _ _
      have hF2 : HasZ (G.upto w1.heap.size (fun _ => 0) (fun _ => maxLen)) w2 bv (c.D.image.getD (c.size + 1 + n) []) := own_Z hbv (fun b hb => by simp [Gh.upto, Nat.not_lt.2 hb])
      have hM2 := hM1.ext hx2 id id id
      have hx02 : Ext0 G w (G.upto w1.heap.size (fun _ => 0) (fun _ => maxLen)) w2 := (Ext.grow hg1).trans hx2
      generalize (G.upto w1.heap.size (fun _ => 0) (fun _ => maxLen)) = G2 at hx2 hF2 hM2 hx02
      clear hx2 hM1 hc hdm hcm hrow hbv hg2 hlk hclk c0 c1 c2 c3 c4 hg1
      simp (maxSteps := 1000000) (disch := omega) only [↓sy1, sy2, sy3, readOK, sy5, sy6, Nat.reduceEqDiff, ↓reduceIte, sy7, sy8, sy9, sya, oneOf, syb, syc, Nat.reduceAdd, Nat.reduceMul, syd, sye, syf, syg, syh, reduceCtorEq])
    | (
      have hb : b = c.D.image.getD (c.size + 1 + n) [] := by
        simp only [cleanQ] at hcq
        split at hcq
        · exact (Option.some.inj hcq).symm
        · cases hcq
      subst hb
      obtain ⟨G2, hG2⟩ : ∃ G2 : Gh, G2 = G := ⟨_, rfl⟩
      have hF2 : HasZ G2 w1 v (c.D.image.getD (c.size + 1 + n) []) := by rw [hG2]; exact hv
      have hM2 : CacheM G2 κ μ w1 p lq c.size came c.D c.most c.q (cleanQ c.D c.size c.row) c.row := by rw [hG2]; exact hM1
      have hx02 : Ext0 G w G2 w1 := by rw [hG2]; exact .grow hg1
      clear hG2
      simp (maxSteps := 1000000) (disch := omega) only [↓sy1, sy2, sy3, readOK, sy5, sy6, Nat.reduceEqDiff, ↓reduceIte, sy7, sy8, sy9, sya, oneOf, syb, syc, Nat.reduceAdd, Nat.reduceMul, syd, sye, syf, syg, syh, reduceCtorEq, c2, (hlk (.slice none 0 0)).2, decide_true, Bool.not_true, c3, (hclk (.slice none 0 0)).2, c0, Bool.not_true]
      clear hM1 hc hdm hcm hrow hlk hclk c0 c1 c2 c3 c4 hg1 hv)
  all_goals
    refine call0 (drop_spec hM2 n) ?_
    rintro _ w3 ⟨hM3, hx3⟩
    rw [cleanQ_del] at hM3
    have hF3 := hF2.ext hx3
    have hx03 := (hx02.mono (κ' := fun x => x = μ) (fun _ h => h.elim)).trans hx3
    have hlf := List.length_filter_le (fun k => decide (k ≠ n)) c.row
    obtain ⟨k1, k2, k3, k4, dm, cm, rv, k5, k6, k7, k8, k9, k10, k11⟩ := hM3
    have hc4 : w3.cell? ⟨p, 4, none⟩ = some rv := by rw [cell_block k5]; rfl
    simp (maxSteps := 1000000) (disch := omega) only [↓sy1, sy2, sy3, readOK, sy5, sy6, Nat.reduceEqDiff, ↓reduceIte, sy7, sy8, sy9, sya, oneOf, syb, syc, Nat.reduceAdd, Nat.reduceMul, syd, sye, syf, syg, syh, reduceCtorEq, hc4]
    have hga : Grow w3 (w3.alloc (.cells #[.int .i64 (n : Int)] 3)) := (Keep.refl _ _).alloc _
    have hsa : (w3.alloc (.cells #[.int .i64 (n : Int)] 3)).heap.size = w3.heap.size + 1 := by simp
    refine app_own2 elemI (by simp only [upd_at, Nat.reduceEqDiff, reduceIte, ev_tmp, ev_const, List.map_cons, List.map_nil]) (by simp only [upd_at, Nat.reduceEqDiff, reduceIte, ev_tmp, ev_const, List.map_cons, List.map_nil]) (own_grow k11.1 hga) Has.new1 (m := 1) rfl (by simp [isCell]) (by omega) (by omega) (by omega) ?_
    intro rv' w4 ho4 hg4 hb4
    have hk4 : Keep (fun b => some b = rv.ownBlock) w3 w4 := (Keep.grow hga).trans (Keep.grown hg4)
    have hx4 := Ext.app hk4 k11.2
    have hup : ∀ m, m < w3.heap.size → ∀ (GG : Gh), (GG.upto w3.heap.size (fun _ => μ) (fun _ => 0)).own m = GG.own m ∧ (GG.upto w3.heap.size (fun _ => μ) (fun _ => 0)).fix m = GG.fix m := fun m hm GG => by simp [Gh.upto, hm]
    have hplt := (Array.getElem?_eq_some_iff.1 k5).1
    have hp4 := hk4.heap k5 (fun hc => k11.ne k5 (fun c t f hc => by cases hc; decide) hc.symm)
    have hmapne : ∀ {m : Nat} {o : Array MapEntry} {k : Nat}, w3.heap[m]? = some (.map o k) → ¬ (some m = rv.ownBlock) := fun {m o k} hm hc => k11.ne hm (fun c t f hc => by cases hc) hc.symm
    have hmv : ∀ {m : Nat} {q : Nat → Option (List UInt8)} {GG : Gh}, BMap GG μ w3 m q → w4.heap[m]? = w3.heap[m]? := fun {m q GG} hm => by
      obtain ⟨es, clk, r1, _⟩ := id hm
      exact hk4.blk m hm.lt (hmapne r1)
    have h9 := k9.move hx4 (hmv k9) (hup dm k9.lt _).1 (hup dm k9.lt _).2
    have h10 := k10.move hx4 (hmv k10) (hup cm k10.lt _).1 (hup cm k10.lt _).2
    have hF4 := hF3.ext hx4
    have hl4 := k4.ext hx4 k1 (fun h => k2 h.symm)
    have hrow4 : RowI (G2.upto w3.heap.size (fun _ => μ) (fun _ => 0)) μ w4 rv' (c.row.filter (fun k => decide (k ≠ n)) ++ [n]) := by
      refine ⟨?_, fun b hb => ?_⟩
      rotate_left
      · rcases hb4 with hb4 | hb4
        · rw [hb4] at hb
          have hlt := (World.ownsRow.lt k11.1 b hb).2
          have h2 := k11.2 b hb
          exact ⟨(hup b hlt _).1.trans h2.1, (hup b hlt _).2.trans h2.2⟩
        · rw [hb4, hsa] at hb
          cases hb
          simp [Gh.upto, show ¬ (w3.heap.size + 1 < w3.heap.size) from by omega]
      · have hts : ints (zs (c.row.filter (fun k => decide (k ≠ n)) ++ [n])) = ints (zs (c.row.filter (fun k => decide (k ≠ n)))) ++ [.int .i64 (n : Int)] := by simp [ints, zs]
        rw [hts, List.length_append, List.length_singleton]
        exact ho4
    have hx04 := hx03.trans hx4
    have h6 := (hup p hplt _).1.trans k6
    have h7 := (hup p hplt _).2.trans k7
    generalize (G2.upto w3.heap.size (fun _ => μ) (fun _ => 0)) = G5 at hx4 h9 h10 hF4 hl4 hrow4 hx04 h6 h7
    have hrc4 : isCell rv' = true := hrow4.has.isCell
    obtain ⟨w5, hst, hp5, hk5⟩ := cell_store hp4 (i := 4) (by simp) (u := rv') hrc4
    have hp5' : w5.heap[p]? = some (.cells #[.pointer (some ⟨lq, 0, none⟩), .int .i64 c.most, .map (some dm), .map (some cm), rv'] 73 (0, 0)) := by simpa using hp5
    have hpm : ∀ {m : Nat} {q : Nat → Option (List UInt8)} {GG : Gh}, BMap GG μ w4 m q → m ≠ p := fun {m q GG} hm hc => by
      obtain ⟨es, clk, r1, _⟩ := hm
      rw [hc, hp4] at r1; cases r1
    have h9b := h9.keep1 hk5 (hpm h9) h6 h7
    have h10b := h10.keep1 hk5 (hpm h10) h6 h7
    have hx5 := Ext.on0 hk5 h6 h7
    have hl5 := hl4.ext hx5 k1 (fun h => k2 h.symm)
    have hF5 := hF4.ext hx5
    have hrow5 := hrow4.keep1 hk5 (hrow4.ne hp4 (fun c t f hc => by cases hc; decide))
    have hc3 : w5.cell? ⟨p, 3, none⟩ = some (.map (some cm)) := by rw [cell_block hp5']; rfl
    have hpcm : p ≠ cm := fun hc => hpm h10 hc.symm
    simp (maxSteps := 1000000) (disch := omega) only [↓sy1, sy2, sy3, readOK, sy5, sy6, Nat.reduceEqDiff, ↓reduceIte, sy7, sy8, sy9, sya, oneOf, syb, syc, Nat.reduceAdd, Nat.reduceMul, syd, sye, syf, syg, syh, reduceCtorEq, hst, hc3]
    refine h10b.put (n := n) (by simp only [upd_at, Nat.reduceEqDiff, reduceIte, ev_tmp, ev_const, List.map_cons, List.map_nil]) (by simp only [upd_at, Nat.reduceEqDiff, reduceIte, ev_tmp, ev_const, List.map_cons, List.map_nil]) rfl (by simpa only [upd_at, Nat.reduceEqDiff, reduceIte, ev_tmp, ev_const, List.map_cons, List.map_nil] using hF5) underM underI (fun w6 hx6 hk6 h10c => ?_)
    rw [cleanQ_put] at h10c
    have h9c := h9b.keep1 hk6 k8 (by obtain ⟨es, clk, _, r2, _⟩ := h10b; exact r2) (by obtain ⟨es, clk, _, _, r3, _⟩ := h10b; exact r3)
    have hp6 := hk6.heap hp5' hpcm
    have hrow6 := hrow5.keep1 hk6 (by
      obtain ⟨es, clk, r1, _⟩ := h10b
      exact hrow5.ne r1 (fun c t f hc => by cases hc))
    have hl6 := hl5.ext hx6 k1 (fun h => k2 h.symm)
    have hF6 := hF5.ext hx6
    have hx06 := (hx04.trans hx5).trans hx6
    have hlr : (c.row.filter (fun k => decide (k ≠ n)) ++ [n]).length ≤ 65 := by rw [List.length_append, List.length_singleton]; omega
    have hM6 : CacheM G5 κ μ w6 p lq c.size came c.D c.most c.q (cleanQ c.D c.size (c.row.filter (fun k => decide (k ≠ n)) ++ [n])) (c.row.filter (fun k => decide (k ≠ n)) ++ [n]) := ⟨k1, k2, hlr, hl6, dm, cm, rv', hp6, h6, h7, k8, h9c, h10c, hrow6⟩
    have hnd : (c.row.filter (fun k => decide (k ≠ n)) ++ [n]).Nodup := by
      rw [List.nodup_append]
      exact ⟨hok.nodup.sublist (List.filter_sublist ..), by simp, fun a ha b hb => by simp at hb; subst hb; exact (filter_ne_mem.1 ha).2⟩
    have htd : touch c.row n c.most = if c.most < (c.row.filter (fun k => decide (k ≠ n)) ++ [n]).length then (c.row.filter (fun k => decide (k ≠ n)) ++ [n]).drop 1 else c.row.filter (fun k => decide (k ≠ n)) ++ [n] := rfl
    rw [htd] at hokr ⊢
    have hlpos : 0 < (c.row.filter (fun k => decide (k ≠ n)) ++ [n]).length := by rw [List.length_append, List.length_singleton]; omega
    have hin : ∀ k ∈ c.row.filter (fun k => decide (k ≠ n)) ++ [n], k < c.N := fun k hk => by
      rcases List.mem_append.1 hk with hk | hk
      · exact (hok.row k (filter_ne_mem.1 hk).1).1
      · simp at hk; subst hk; exact hn
    clear hM2 hF2 hx02 hx3 hF3 hx03 hlf k3 k4 k5 k6 k7 k9 k10 k11 hc4 hga hsa ho4 hg4 hb4 hk4 hup hplt hp4 hmapne hmv hx4 h9 h10 hF4 hl4 hrow4 hx04 hst hp5 hk5 hp5' hpm h9b h10b hx5 hl5 hF5 hrow5 hx6 hk6
    generalize hrr : c.row.filter (fun k => decide (k ≠ n)) ++ [n] = row' at *
    refine draw28_0 (fun _ => False) ?_
    have hgd : Grow w6 w6.drew := (Keep.refl _ _).drew
    generalize w6.drew = w7 at hgd ⊢
    have hp7 := hgd.gheap hp6
    have hrow7 := hrow6.ext (K := fun _ => False) (.grow hgd) id
    have hM7 := hM6.grow hgd
    have hF7 := hF6.ext (K := fun _ => False) (.grow hgd)
    have hlen : ∀ w', lenF w' 0 rv' = some (.int .i64 row'.length) := fun w' => by rw [hrow7.has.lenI]; simp
    have q1 : w7.cell? ⟨p, 1, none⟩ = some (.int .i64 c.most) := by rw [cell_block hp7]; rfl
    have q4 : w7.cell? ⟨p, 4, none⟩ = some rv' := by rw [cell_block hp7]; rfl
    by_cases hlt : c.most < row'.length
    · rw [if_pos hlt] at hokr ⊢
      obtain ⟨a, ha, hac, _⟩ := hrow7.has.getI (i := 0) (by simpa using hlpos)
      have hz : (zs row')[0]'(by simpa using hlpos) = ((row'[0] : Nat) : Int) := by simp
      rw [hz] at hac
      have ha : iaF 1 rv' (.int .i64 0) = some (.pointer (some a)) := ha
      simp (maxSteps := 1000000) (disch := omega) only [↓sy1, sy2, sy3, readOK, sy5, sy6, Nat.reduceEqDiff, ↓reduceIte, sy7, sy8, sy9, sya, oneOf, syb, syc, Nat.reduceAdd, Nat.reduceMul, syd, sye, syf, syg, syh, reduceCtorEq, PL28_0, q1, q4, hlen, show ((c.most : Int) < (row'.length : Int)) from by omega, decide_true, ha, hac]
      refine call0 (drop_spec hM7 row'[0]) ?_
      rintro _ w8 ⟨hM8, hx8⟩
      rw [cleanQ_del, drop_first hnd hlpos] at hM8
      have hF8 := hF7.ext hx8
      simp (maxSteps := 1000000) (disch := omega) only [↓sy1, sy2, sy3, readOK, sy5, sy6, Nat.reduceEqDiff, ↓reduceIte, sy7, sy8, sy9, sya, oneOf, syb, syc, Nat.reduceAdd, Nat.reduceMul, syd, sye, syf, syg, syh, reduceCtorEq]
      refine call0 (bytesClone_spec _ _ w8 hF8.1.1 (by omega)) ?_
      rintro u w9 ⟨hu, hg9⟩
      simp (maxSteps := 1000000) (disch := omega) only [↓sy1, sy2, sy3, readOK, sy5, sy6, Nat.reduceEqDiff, ↓reduceIte, sy7, sy8, sy9, sya, oneOf, syb, syc, Nat.reduceAdd, Nat.reduceMul, syd, sye, syf, syg, syh, reduceCtorEq]
      rw [hpl] at hu
      exact R_out ⟨u, G5, w8, rfl, hu, ⟨hokr, hM8⟩, (hx06.trans (.grow hgd)).trans hx8, hg9⟩
    · rw [if_neg hlt] at hokr ⊢
      simp (maxSteps := 1000000) (disch := omega) only [↓sy1, sy2, sy3, readOK, sy5, sy6, Nat.reduceEqDiff, ↓reduceIte, sy7, sy8, sy9, sya, oneOf, syb, syc, Nat.reduceAdd, Nat.reduceMul, syd, sye, syf, syg, syh, reduceCtorEq, PL28_0, q1, q4, hlen, show ¬ ((c.most : Int) < (row'.length : Int)) from by omega, decide_false]
      refine call0 (bytesClone_spec _ _ w7 hF7.1.1 (by omega)) ?_
      rintro u w9 ⟨hu, hg9⟩
      simp (maxSteps := 1000000) (disch := omega) only [↓sy1, sy2, sy3, readOK, sy5, sy6, Nat.reduceEqDiff, ↓reduceIte, sy7, sy8, sy9, sya, oneOf, syb, syc, Nat.reduceAdd, Nat.reduceMul, syd, sye, syf, syg, syh, reduceCtorEq]
      rw [hpl] at hu
      exact R_out ⟨u, G5, w7, rfl, hu, ⟨hokr, hM7⟩, hx06.trans (.grow hgd), hg9⟩
theorem cread_spec (h : CacheAt G κ μ w p lq came c) {n : Nat} (hn : n < c.N) :
    Calls Tryz.prog 28 #[.pointer (some ⟨p, 0, none⟩), .int .i64 n] w (Ret fun v w' => ∃ u G', v = .tuple #[u, .int .i64 0] ∧ w'.ownsRow w.heap.size 5 1 u 512 (bs (c.page n)) ∧ CacheAt G' κ μ w' p lq came (c.read n) ∧ Ext (fun x => x = μ) G w G' w') :=
  Ret.mono (cread_strong h hn) fun _ _ ⟨u, G', _, h1, h2, h3, h4, h5⟩ => ⟨u, G', h1, own_base h2 h4.size, h3.grow h5, h4.trans (.grow h5)⟩
end
end Go.Proofs.YtgmodahpcpepjaaGreat

/- A cache: a page is written. -/
namespace Go.Proofs.YtgmodahpcpepjaaGreat
open Go
set_option linter.unusedSimpArgs false
open Go.RowKit (intOf)
section
variable {G : Gh} {κ μ p lq came : Nat} {w : World} {c : Csh}
set_option maxHeartbeats 4000000 in
theorem cwrite_spec (h : CacheAt G κ μ w p lq came c) {n : Int} {bv : Value} {b : List UInt8} (hb : HasB w bv b) (hl : b.length ≤ 140737488355328) :
    Calls Tryz.prog 29 #[.pointer (some ⟨p, 0, none⟩), .int .i64 n, bv] w (Ret fun v w' => v = .int .i64 (c.wcode n b.length) ∧ ∃ G', CacheAt G' κ μ w' p lq came (if c.wcode n b.length = 0 then c.write n.toNat b else c) ∧ Ext (fun x => x = μ) G w G' w') := by
  obtain ⟨hok, hM⟩ := id h
  have hN : c.N = c.D.first.length - c.size - 1 := rfl
  apply enter29
  apply R_in
  simp (maxSteps := 1000000) (disch := omega) only [↓sy1, sy2, sy3, readOK, sy5, sy6, Nat.reduceEqDiff, ↓reduceIte, sy7, sy8, sy9, sya, oneOf, syb, syc, Nat.reduceAdd, Nat.reduceMul, syd, sye, syf, syg, syh, reduceCtorEq, F29]
  by_cases hn : n < 0 ∨ (c.N : Int) ≤ n
  · refine call0 (look_badC hM hn) ?_
    rintro _ w1 ⟨rfl, hg1⟩
    have hcode : c.wcode n b.length = 2 := by unfold Csh.wcode; rw [if_pos hn]
    rw [hcode, if_neg (by omega)]
    simp (maxSteps := 1000000) (disch := omega) only [↓sy1, sy2, sy3, readOK, sy5, sy6, Nat.reduceEqDiff, ↓reduceIte, sy7, sy8, sy9, sya, oneOf, syb, syc, Nat.reduceAdd, Nat.reduceMul, syd, sye, syf, syg, syh, reduceCtorEq, show ¬ ((2 : Int) = 0) from by omega, decide_false, Bool.not_false]
    exact R_out ⟨G, h.grow hg1, .grow hg1⟩
  obtain ⟨m, rfl⟩ : ∃ m : Nat, n = m := ⟨n.toNat, by omega⟩
  have hmN : m < c.N := by omega
  refine call0 (look_okC hM (n := m) hmN) ?_
  rintro _ w1 ⟨rfl, hg1⟩
  have hM1 := hM.grow hg1
  have hb1 := hb.grow hg1
  have hlen : ∀ w', lenF w' 0 bv = some (.int .i64 b.length) := fun w' => by rw [hb.lenB]
  obtain ⟨dm, cm, rv, hc⟩ := hM1.cells
  obtain ⟨c0, c1, c2, c3, c4, hdm, hcm, hrow⟩ := hc (Keep.refl _ _)
  by_cases h5 : b.length = 512
  rotate_left
  · have hcode : c.wcode m b.length = 3 := by unfold Csh.wcode; rw [if_neg hn, if_pos h5]
    rw [hcode, if_neg (by omega)]
    rcases hdm.find m with ⟨hq, hlk⟩ | ⟨b0, v0, hq, hv0, hlk⟩
    · simp (maxSteps := 1000000) (disch := omega) only [↓sy1, sy2, sy3, readOK, sy5, sy6, Nat.reduceEqDiff, ↓reduceIte, sy7, sy8, sy9, sya, oneOf, syb, syc, Nat.reduceAdd, Nat.reduceMul, syd, sye, syf, syg, syh, reduceCtorEq, c2, (hlk (.slice none 0 0)).2, hlen, show ¬ ((b.length : Int) = 512) from by omega, decide_false, Bool.not_false]
      exact R_out ⟨G, h.grow hg1, .grow hg1⟩
    · simp (maxSteps := 1000000) (disch := omega) only [↓sy1, sy2, sy3, readOK, sy5, sy6, Nat.reduceEqDiff, ↓reduceIte, sy7, sy8, sy9, sya, oneOf, syb, syc, Nat.reduceAdd, Nat.reduceMul, syd, sye, syf, syg, syh, reduceCtorEq, c2, (hlk (.slice none 0 0)).2, hlen, show ¬ ((b.length : Int) = 512) from by omega, decide_false, Bool.not_false]
      exact R_out ⟨G, h.grow hg1, .grow hg1⟩
  have hb5 : (b.length : Int) = 512 := by omega
  by_cases h7 : c.q m = none ∧ c.cap ≤ c.dirty.length
  · have hcode : c.wcode m b.length = 7 := by unfold Csh.wcode; rw [if_neg hn, if_neg (by omega)]; exact if_pos h7
    rw [hcode, if_neg (by omega)]
    rcases hdm.find m with ⟨hq, hlk⟩ | ⟨b0, v0, hq, hv0, hlk⟩
    · simp (maxSteps := 1000000) (disch := omega) only [↓sy1, sy2, sy3, readOK, sy5, sy6, Nat.reduceEqDiff, ↓reduceIte, sy7, sy8, sy9, sya, oneOf, syb, syc, Nat.reduceAdd, Nat.reduceMul, syd, sye, syf, syg, syh, reduceCtorEq, c2, (hlk (.slice none 0 0)).2, hlen, hb5, decide_true, Bool.not_true, Bool.not_false]
      refine call0 (room_spec (h.grow hg1)) ?_
      rintro _ w2 ⟨rfl, hg2⟩
      have hroom := h7.2
      simp (maxSteps := 1000000) (disch := omega) only [↓sy1, sy2, sy3, readOK, sy5, sy6, Nat.reduceEqDiff, ↓reduceIte, sy7, sy8, sy9, sya, oneOf, syb, syc, Nat.reduceAdd, Nat.reduceMul, syd, sye, syf, syg, syh, reduceCtorEq, show ((c.cap : Int) - c.dirty.length ≤ 0) from by omega, decide_true]
      exact R_out ⟨G, (h.grow hg1).grow hg2, .grow (hg1.trans hg2)⟩
    · rw [hq] at h7; cases h7.1
  have hcode : c.wcode m b.length = 0 := by unfold Csh.wcode; rw [if_neg hn, if_neg (by omega)]; exact if_neg h7
  have hokw := hok.write hcode
  rw [hcode, if_pos rfl]
  rcases hdm.find m with ⟨hq, hlk⟩ | ⟨b0, v0, hq, hv0, hlk⟩
  all_goals first
    | (
      simp (maxSteps := 1000000) (disch := omega) only [↓sy1, sy2, sy3, readOK, sy5, sy6, Nat.reduceEqDiff, ↓reduceIte, sy7, sy8, sy9, sya, oneOf, syb, syc, Nat.reduceAdd, Nat.reduceMul, syd, sye, syf, syg, syh, reduceCtorEq, c2, (hlk (.slice none 0 0)).2, hlen, hb5, decide_true, Bool.not_true, Bool.not_false]
      refine call0 (room_spec (h.grow hg1)) ?_
      rintro _ w2 ⟨rfl, hg2⟩
      have hroom : ¬ (c.cap ≤ c.dirty.length) := fun hh => h7 ⟨hq, hh⟩
      simp (maxSteps := 1000000) (disch := omega) only [↓sy1, sy2, sy3, readOK, sy5, sy6, Nat.reduceEqDiff, ↓reduceIte, sy7, sy8, sy9, sya, oneOf, syb, syc, Nat.reduceAdd, Nat.reduceMul, syd, sye, syf, syg, syh, reduceCtorEq, show ¬ ((c.cap : Int) - c.dirty.length ≤ 0) from by omega, decide_false]
      have hg2 := hg1.trans hg2)
    | (
      have hg2 := hg1
      simp (maxSteps := 1000000) (disch := omega) only [↓sy1, sy2, sy3, readOK, sy5, sy6, Nat.reduceEqDiff, ↓reduceIte, sy7, sy8, sy9, sya, oneOf, syb, syc, Nat.reduceAdd, Nat.reduceMul, syd, sye, syf, syg, syh, reduceCtorEq, c2, (hlk (.slice none 0 0)).2, hlen, hb5, decide_true, Bool.not_true, Bool.not_false])
  all_goals
    clear hdm hcm hrow hc c0 c1 c2 c3 c4 hlk
    refine draw29_0 (fun _ => False) ?_
    have hg3 := hg2.drew
    have hgd : Grow _ _ := hg3
    generalize hw3 : World.drew _ = w3 at hg3 ⊢
    clear hgd hg2 hw3
    obtain ⟨k1, k2, k3, k4, dm, cm, rv, k5, k6, k7, k8, k9, k10, k11⟩ := hM.grow hg3
    have hc2 : w3.cell? ⟨p, 2, none⟩ = some (.map (some dm)) := by rw [cell_block k5]; rfl
    simp (maxSteps := 1000000) (disch := omega) only [↓sy1, sy2, sy3, readOK, sy5, sy6, Nat.reduceEqDiff, ↓reduceIte, sy7, sy8, sy9, sya, oneOf, syb, syc, Nat.reduceAdd, Nat.reduceMul, syd, sye, syf, syg, syh, reduceCtorEq, PL29_0, hc2]
    refine call0 (bytesClone_spec bv b w3 (hb.grow hg3) hl) ?_
    rintro u w4 ⟨hu, hg4⟩
    simp (maxSteps := 1000000) (disch := omega) only [↓sy1, sy2, sy3, readOK, sy5, sy6, Nat.reduceEqDiff, ↓reduceIte, sy7, sy8, sy9, sya, oneOf, syb, syc, Nat.reduceAdd, Nat.reduceMul, syd, sye, syf, syg, syh, reduceCtorEq]
    refine ⟨hg4, ?_⟩
    have hx4 : Ext0 G w3 (G.upto w3.heap.size (fun _ => 0) (fun _ => maxLen)) w4 := .upto hg4 _ _
    have hZ : HasZ (G.upto w3.heap.size (fun _ => 0) (fun _ => maxLen)) w4 u b := own_Z hu (fun b hb => by simp [Gh.upto, Nat.not_lt.2 hb])
    generalize (G.upto w3.heap.size (fun _ => 0) (fun _ => maxLen)) = G4 at hx4 hZ
    obtain ⟨k1, k2, k3, k4, dm', cm', rv', k5', k6, k7, k8, k9, k10, k11⟩ := (hM.grow hg3).ext hx4 id id id
    rw [hx4.heap k5 id] at k5'
    cases k5'
    refine k9.put (n := m) (by simp only [upd_at, Nat.reduceEqDiff, reduceIte, ev_tmp, ev_const, List.map_cons, List.map_nil]) (by simp only [upd_at, Nat.reduceEqDiff, reduceIte, ev_tmp, ev_const, List.map_cons, List.map_nil]) rfl (by simpa only [upd_at, Nat.reduceEqDiff, reduceIte, ev_tmp, ev_const, List.map_cons, List.map_nil] using hZ) underM underI (fun w5 hx5 hk5 h9c => ?_)
    have hp4 := hx4.heap k5 id
    have hpm : p ≠ dm := fun hc => by
      obtain ⟨es, clk, r1, _⟩ := k9
      rw [← hc, hp4] at r1; cases r1
    have hdo : G4.own dm = μ ∧ G4.fix dm = 0 := by obtain ⟨es, clk, _, r2, r3, _⟩ := k9; exact ⟨r2, r3⟩
    have hrow5 := k11.keep1 hk5 (by
      obtain ⟨es, clk, r1, _⟩ := k9
      exact k11.ne r1 (fun c t f hc => by cases hc))
    have hM5 : CacheM G4 κ μ w5 p lq c.size came c.D c.most (qput c.q m b) (cleanQ c.D c.size c.row) c.row :=
      ⟨k1, k2, k3, k4.ext hx5 k1 (fun h => k2 h.symm), dm, cm, rv, hk5.heap hp4 hpm, k6, k7, k8, h9c, k10.keep1 hk5 (fun h => k8 h.symm) hdo.1 hdo.2, hrow5⟩
    simp (maxSteps := 1000000) (disch := omega) only [↓sy1, sy2, sy3, readOK, sy5, sy6, Nat.reduceEqDiff, ↓reduceIte, sy7, sy8, sy9, sya, oneOf, syb, syc, Nat.reduceAdd, Nat.reduceMul, syd, sye, syf, syg, syh, reduceCtorEq]
    refine call0 (drop_spec hM5 m) ?_
    rintro _ w6 ⟨hM6, hx6⟩
    rw [cleanQ_del] at hM6
    simp (maxSteps := 1000000) (disch := omega) only [↓sy1, sy2, sy3, readOK, sy5, sy6, Nat.reduceEqDiff, ↓reduceIte, sy7, sy8, sy9, sya, oneOf, syb, syc, Nat.reduceAdd, Nat.reduceMul, syd, sye, syf, syg, syh, reduceCtorEq]
    exact R_out ⟨G4, ⟨hokw, hM6⟩, (((Ext.grow hg3).trans hx4).mono (κ' := fun x => x = μ) (fun _ h => h.elim)).trans (hx5.trans hx6)⟩
end
end Go.Proofs.YtgmodahpcpepjaaGreat

/- A cache: all that was written is committed. -/
namespace Go.Proofs.YtgmodahpcpepjaaGreat
open Go
set_option linter.unusedSimpArgs false
open Go.RowKit (intOf)
section
variable {G : Gh} {κ μ p lq came : Nat} {w : World} {c : Csh}
/-- What is read stays, when it is committed. -/
theorem Csh.commit_image (hc : c.Ok) {n : Nat} (hn : n < c.N) : c.commit.D.image.getD (c.size + 1 + n) [] = c.page n := by
  have hlen : c.dirtyL.length ≤ c.size := by have := hc.room; rw [Csh.dirtyL_length]; simp only [Csh.cap] at this; omega
  have hN : c.N = c.D.first.length - c.size - 1 := rfl
  by_cases hd : c.dirty = []
  · have hq : c.q n = none := by
      cases hq : c.q n with
      | none => rfl
      | some b =>
        have : n ∈ c.dirty := mem_keysQ.2 ⟨hn, b, hq⟩
        rw [hd] at this; cases this
    simp [Csh.commit, hd, Csh.page, hq]
  · have hD : c.commit.D = grouped c.size c.D c.dirtyL := by simp [Csh.commit, hd]
    rw [hD, List.getD_eq_getElem?_getD]
    cases hq : c.q n with
    | none =>
      rw [grouped_other hlen (by omega) (fun p hp he => by
        obtain ⟨m, b⟩ := p
        have := (Csh.mem_dirtyL hc).1 hp
        simp only at he
        have hmn : m = n := by omega
        subst hmn; rw [hq] at this; cases this)]
      simp [Csh.page, hq, List.getD_eq_getElem?_getD]
    | some b =>
      have := grouped_page (size := c.size) (D := c.D) (ps := c.dirtyL) (p := (n, b)) (by rw [Csh.dirtyL_fst]; exact nodup_lt (keysQ_rise _ _)) (fun p hp => by
        obtain ⟨m, b'⟩ := p
        have := (hc.q m b' ((Csh.mem_dirtyL hc).1 hp)).1
        simp only; omega) ((Csh.mem_dirtyL hc).2 hq)
      simp only at this
      rw [this]; simp [Csh.page, hq]
theorem Csh.commit_clean (hc : c.Ok) : cleanQ c.commit.D c.size c.row = cleanQ c.D c.size c.row := by
  funext n
  unfold cleanQ
  split
  · rename_i hm
    obtain ⟨h1, h2⟩ := hc.row n hm
    rw [Csh.commit_image hc h1]; simp [Csh.page, h2]
  · rfl
theorem MapOk.one {es : List MapEntry} {clk : Nat} (h : MapOk es clk) {y z : MapEntry} (hy : y ∈ es) (hz : z ∈ es) (hk : y.key = z.key) : y = z := by
  obtain ⟨i, hi, rfl⟩ := List.getElem_of_mem hy
  obtain ⟨j, hj, rfl⟩ := List.getElem_of_mem hz
  have hp := List.pairwise_iff_getElem.1 h.keys
  rcases Nat.lt_trichotomy i j with hlt | rfl | hlt
  · exact absurd hk (hp i j hi hj hlt)
  · rfl
  · exact absurd hk.symm (hp j i hj hi hlt)
/-- The pages that have been seen. -/
structure SeenP (es : List MapEntry) (seen : List Nat) (q : Nat → Option (List UInt8)) (ps : List Pg) : Prop where
  sound : ∀ p ∈ ps, ∃ n b, q n = some b ∧ p = ((n : Int), b) ∧ ∃ y ∈ es, y.born ∈ seen ∧ y.key = .int .i64 (n : Nat)
  full : ∀ y ∈ es, y.born ∈ seen → ∃ (n : Nat) (b : List UInt8), y.key = .int .i64 n ∧ q n = some b ∧ ((n : Int), b) ∈ ps
  nodup : (ps.map (·.1)).Nodup
theorem SeenP.nil (es : List MapEntry) (q : Nat → Option (List UInt8)) : SeenP es [] q [] := ⟨by simp, by simp, by simp⟩
theorem SeenP.snoc {es : List MapEntry} {clk : Nat} {seen : List Nat} {q : Nat → Option (List UInt8)} {ps : List Pg} (h : SeenP es seen q ps) (hok : MapOk es clk) {y : MapEntry} {n : Nat} {b : List UInt8} (hy : y ∈ es) (hyn : y.born ∉ seen) (hk : y.key = .int .i64 (n : Nat)) (hq : q n = some b) : SeenP es (seen ++ [y.born]) q (ps ++ [((n : Int), b)]) := by
  obtain ⟨h1, h2, h3⟩ := h
  have hno : ∀ p ∈ ps, p.1 ≠ (n : Int) := fun p hp he => by
    obtain ⟨m, b', _, rfl, z, hz, hzs, hzk⟩ := h1 p hp
    simp only at he
    have hmn : m = n := by omega
    subst hmn
    have := hok.one hy hz (by rw [hk, hzk])
    subst this; exact hyn hzs
  refine ⟨fun p hp => ?_, fun z hz hzs => ?_, ?_⟩
  · rcases List.mem_append.1 hp with hp | hp
    · obtain ⟨m, b', k1, k2, z, k3, k4, k5⟩ := h1 p hp
      exact ⟨m, b', k1, k2, z, k3, by simp [k4], k5⟩
    · simp at hp; subst hp
      exact ⟨n, b, hq, rfl, y, hy, by simp, hk⟩
  · rcases List.mem_append.1 hzs with hzs | hzs
    · obtain ⟨m, b', k1, k2, k3⟩ := h2 z hz hzs
      exact ⟨m, b', k1, k2, by simp [k3]⟩
    · simp at hzs
      have hzy : z = y := by
        have hb := hok.born
        obtain ⟨i, hi, rfl⟩ := List.getElem_of_mem hz
        obtain ⟨j, hj, rfl⟩ := List.getElem_of_mem hy
        have hp := List.pairwise_iff_getElem.1 hb
        rcases Nat.lt_trichotomy i j with hlt | rfl | hlt
        · exact absurd hzs (by have := hp i j hi hj hlt; omega)
        · rfl
        · exact absurd hzs.symm (by have := hp j i hj hi hlt; omega)
      subst hzy
      exact ⟨n, b, hk, hq, by simp⟩
  · rw [List.map_append, List.nodup_append]
    refine ⟨h3, by simp, fun a ha d hd => ?_⟩
    simp at hd; subst hd
    obtain ⟨p, hp, rfl⟩ := List.mem_map.1 ha
    exact hno p hp
theorem SeenP.group (hc : c.Ok) {es : List MapEntry} {seen : List Nat} {ps : List Pg} (h : SeenP es seen c.q ps) (hall : ∀ y ∈ es, y.born ∈ seen) (hhas : ∀ n b, c.q n = some b → ∃ e ∈ es, e.key = .int .i64 (n : Nat)) : c.group ps := by
  obtain ⟨h1, h2, h3⟩ := h
  have hnd : ∀ {l : List Pg}, (l.map (·.1)).Nodup → l.Nodup := fun {l} hl => by
    unfold List.Nodup at hl ⊢
    rw [List.pairwise_map] at hl
    exact hl.imp (fun hab hc => hab (by rw [hc]))
  refine (List.perm_ext_iff_of_nodup (hnd h3) (hnd ?_)).2 fun p => ?_
  · rw [List.map_map]
    have h4 : (c.dirtyL.map (·.1)).Pairwise (· < ·) := by rw [Csh.dirtyL_fst]; exact keysQ_rise _ _
    rw [List.pairwise_map] at h4
    unfold List.Nodup
    rw [List.pairwise_map]
    exact h4.imp (fun hab => by simp only [Function.comp]; omega)
  · rw [List.mem_map]
    constructor
    · intro hp
      obtain ⟨n, b, hq, rfl, _⟩ := h1 p hp
      exact ⟨(n, b), (Csh.mem_dirtyL hc).2 hq, rfl⟩
    · rintro ⟨⟨n, b⟩, hm, rfl⟩
      have hq := (Csh.mem_dirtyL hc).1 hm
      obtain ⟨y, hy, hk⟩ := hhas n b hq
      obtain ⟨n', b', k1, k2, k3⟩ := h2 y hy (hall y hy)
      rw [hk] at k1
      have := key_inj k1; subst this
      rw [hq] at k2; cases k2
      exact k3
theorem SeenP.few (hc : c.Ok) {es : List MapEntry} {seen : List Nat} {ps : List Pg} (h : SeenP es seen c.q ps) : ps.length ≤ 100 := by
  have h1 : (ps.map (·.1)).length ≤ (c.dirty.map fun n : Nat => (n : Int)).length := by
    refine List.Nodup.length_le_of_subset h.nodup (fun a ha => ?_)
    obtain ⟨p, hp, rfl⟩ := List.mem_map.1 ha
    obtain ⟨n, b, hq, rfl, _⟩ := h.sound p hp
    exact List.mem_map.2 ⟨n, mem_keysQ.2 ⟨(hc.q n b hq).1, b, hq⟩, rfl⟩
  rw [List.length_map, List.length_map] at h1
  have := hc.room
  simp only [Csh.cap] at this; omega
set_option maxHeartbeats 4000000 in
theorem ccommit_spec (h : CacheAt G κ μ w p lq came c) (ho : c.D.ops.length < 700000) :
    Calls Tryz.prog 31 #[.pointer (some ⟨p, 0, none⟩)] w (Ret fun v w' => v = .int .i64 0 ∧ ∃ G', CacheAt G' κ μ w' p lq came c.commit ∧ Ext (fun x => x = κ ∨ x = μ) G w G' w') := by
  obtain ⟨hok, hM⟩ := id h
  obtain ⟨k1, k2, k3, k4, dm, cm, rv, k5, k6, k7, k8, k9, k10, k11⟩ := id hM
  obtain ⟨es, clk, hes, hdo, hdf, hmok, hq1, hq2⟩ := id k9
  have hκ0 : κ ≠ 0 := k4.1
  have hc2 : w.cell? ⟨p, 2, none⟩ = some (.map (some dm)) := by rw [cell_block k5]; rfl
  apply enter31
  apply R_in
  simp (maxSteps := 1000000) (disch := omega) only [↓sy1, sy2, sy3, readOK, sy5, sy6, Nat.reduceEqDiff, ↓reduceIte, sy7, sy8, sy9, sya, oneOf, syb, syc, Nat.reduceAdd, Nat.reduceMul, syd, sye, syf, syg, syh, reduceCtorEq, F31, hc2]
  refine range_rule (m := dm) (by simp only [upd_at, Nat.reduceEqDiff, reduceIte, ev_tmp, ev_const, List.map_cons, List.map_nil]) underM hes ?_
  have hg1 : Grow w (w.alloc (.mapIter (some dm) clk #[] clk)) := (Keep.refl _ _).alloc _
  have hr1 := heap_alloc_new w (.mapIter (some dm) clk #[] clk)
  have hs1 : (w.alloc (.mapIter (some dm) clk #[] clk)).heap.size = w.heap.size + 1 := by simp
  generalize w.alloc (.mapIter (some dm) clk #[] clk) = w1 at hg1 hr1 hs1 ⊢
  simp (maxSteps := 1000000) (disch := omega) only [↓sy1, sy2, sy3, readOK, sy5, sy6, Nat.reduceEqDiff, ↓reduceIte, sy7, sy8, sy9, sya, oneOf, syb, syc, Nat.reduceAdd, Nat.reduceMul, syd, sye, syf, syg, syh, reduceCtorEq]
  refine mloop_rule (r := w.heap.size) (m := dm) (clk := clk) (es := es) (fun seen e w' => ∃ (ps : List Pg) (xs : List Value), e 0 = .pointer (some ⟨p, 0, none⟩) ∧ e 13 = .pointer (some ⟨w.heap.size, 0, none⟩) ∧ Grow w w' ∧ w'.ownsRow (w.heap.size + 1) 105 2 (e 3) ps.length xs ∧ w.heap.size + 1 ≤ w'.heap.size ∧
      xs.length = 2 * ps.length ∧ (∀ i (h : i < ps.length), xs[2 * i]? = some (.int .i64 ps[i].1) ∧ ∃ u, xs[2 * i + 1]? = some u ∧ HasZ G w u ps[i].2) ∧ SeenP es.toList seen c.q ps)
    hr1 ⟨[], [], by simp [upd, updO, ev], by simp [upd, updO, ev], hg1, by simpa [upd, updO, ev] using World.ownsRow_nil w1 _ _ _, by omega, rfl, by simp, SeenP.nil _ _⟩ ?_
  rintro seen e w2 hr2 ⟨ps, xs, e0, e13, hg2, ho2, hs2, hxl, hxs, hseen⟩
  have hfew := hseen.few hok
  simp (maxSteps := 1000000) (disch := omega) only [↓sy1, sy2, sy3, readOK, sy5, sy6, Nat.reduceEqDiff, ↓reduceIte, sy7, sy8, sy9, sya, oneOf, syb, syc, Nat.reduceAdd, Nat.reduceMul, syd, sye, syf, syg, syh, reduceCtorEq, F31_L0, e0, e13]
  refine next_rule (by simp only [upd_at, Nat.reduceEqDiff, reduceIte, ev_tmp, ev_const, List.map_cons, List.map_nil, e13]) hr2 (hg2.gheap hes) hmok (fun hend => ?_) (fun y hy hyn w3 hk3 hr3 => ?_)
  · have hgrp := hseen.group hok hend hq2
    obtain ⟨hcode, hdone⟩ := Csh.group_code hok hgrp
    have hp2 := hg2.gheap k5
    have hc0 : w2.cell? ⟨p, 0, none⟩ = some (.pointer (some ⟨lq, 0, none⟩)) := by rw [cell_block hp2]; rfl
    have hx2 : Ext0 G w (G.new w.heap.size) w2 := .newB hg2
    have hM2 := hM.ext hx2 id id id
    have hP : PagesH (G.new w.heap.size) κ w2 (e 3) ps xs := by
      refine ⟨Has.own ho2, hxl, fun b hb _ => ?_, fun i hi => ?_⟩
      · obtain ⟨h1, h2⟩ := World.ownsRow.lt ho2 b hb
        exact ⟨h2, by rw [Gh.new_own (by omega)]; exact hκ0.symm⟩
      · obtain ⟨h1, u, h2, h3⟩ := hxs i hi
        exact ⟨h1, u, h2, (h3.ext hx2).held hκ0⟩
    simp (maxSteps := 1000000) (disch := omega) only [↓sy1, sy2, sy3, readOK, sy5, sy6, Nat.reduceEqDiff, ↓reduceIte, sy7, sy8, sy9, sya, oneOf, syb, syc, Nat.reduceAdd, Nat.reduceMul, syd, sye, syf, syg, syh, reduceCtorEq, e0, hc0]
    refine call0 (commit_spec hM2.log hP (by omega) ho) ?_
    rintro _ w3 ⟨rfl, G3, hl3, hx3⟩
    rw [hcode]
    rw [hdone] at hl3
    have hM3 := hM2.put hx3 hl3
    obtain ⟨m1, m2, m3, m4, dm', cm', rv', m5, m6, m7, m8, m9, m10, m11⟩ := hM3
    have hc2' : w3.cell? ⟨p, 2, none⟩ = some (.map (some dm')) := by rw [cell_block m5]; rfl
    simp (maxSteps := 1000000) (disch := omega) only [↓sy1, sy2, sy3, readOK, sy5, sy6, Nat.reduceEqDiff, ↓reduceIte, sy7, sy8, sy9, sya, oneOf, syb, syc, Nat.reduceAdd, Nat.reduceMul, syd, sye, syf, syg, syh, reduceCtorEq, e0, hc2', decide_true]
    refine m9.clear (by simp only [upd_at, Nat.reduceEqDiff, reduceIte, ev_tmp, ev_const, List.map_cons, List.map_nil]) underM (fun w4 hx4 hk4 h9' => ?_)
    have hpm : p ≠ dm' := fun hc => by
      obtain ⟨es, clk, r1, _⟩ := m9
      rw [← hc, m5] at r1; cases r1
    have hdo' : G3.own dm' = μ ∧ G3.fix dm' = 0 := by obtain ⟨es, clk, _, r2, r3, _⟩ := m9; exact ⟨r2, r3⟩
    have hrow : RowI G3 μ w4 rv' c.row := m11.keep1 hk4 (by
      obtain ⟨es, clk, r1, _⟩ := m9
      exact m11.ne r1 (fun c t f hc => by cases hc))
    simp (maxSteps := 1000000) (disch := omega) only [↓sy1, sy2, sy3, readOK, sy5, sy6, Nat.reduceEqDiff, ↓reduceIte, sy7, sy8, sy9, sya, oneOf, syb, syc, Nat.reduceAdd, Nat.reduceMul, syd, sye, syf, syg, syh, reduceCtorEq]
    refine R_out ⟨G3, ⟨hok.commit ?_, m1, m2, m3, m4.ext hx4 m1 (fun h => m2 h.symm), dm', cm', rv', hk4.heap m5 hpm, m6, m7, m8, h9', ?_, hrow⟩, ?_⟩
    · exact hl3.cells.choose_spec.1.ok
    · show BMap G3 μ w4 cm' (cleanQ c.commit.D c.size c.row)
      rw [Csh.commit_clean hok]
      exact m10.keep1 hk4 (fun h => m8 h.symm) hdo'.1 hdo'.2
    · exact ((hx2.mono (κ' := fun x => x = κ ∨ x = μ) (fun _ h => h.elim)).trans (hx3.mono (fun _ h => .inl h))).trans (hx4.mono (fun _ h => .inr h))
  · obtain ⟨n, b, hyk, hyq, hyv⟩ := hq1 y hy
    have hbc := hyv.1.1.isCell
    have hg3 : Grow w w3 := hg2.then hk3 (fun b hb h => by omega)
    have ho3 := own_keepk ho2 hk3 (fun b hb hbr => by have := (World.ownsRow.lt ho2 b hb).1; omega)
    have hs3 := hk3.size
    simp (maxSteps := 1000000) (disch := omega) only [↓sy1, sy2, sy3, readOK, sy5, sy6, Nat.reduceEqDiff, ↓reduceIte, sy7, sy8, sy9, sya, oneOf, syb, syc, Nat.reduceAdd, Nat.reduceMul, syd, sye, syf, syg, syh, reduceCtorEq]
    refine entry_rule (by simp only [upd_at, Nat.reduceEqDiff, reduceIte, ev_tmp, ev_const, List.map_cons, List.map_nil, e13]) hr3 (hg3.gheap hes) hmok hy ?_
    simp (maxSteps := 1000000) (disch := omega) only [↓sy1, sy2, sy3, readOK, sy5, sy6, Nat.reduceEqDiff, ↓reduceIte, sy7, sy8, sy9, sya, oneOf, syb, syc, Nat.reduceAdd, Nat.reduceMul, syd, sye, syf, syg, syh, reduceCtorEq, hyk, fill_gen, fillF_2 (a := .int .i64 0) (b := .slice none 0 0) (u := .int .i64 (n : Int)) rfl hbc, fill_of2, fillF_p (a := .int .i64 0) (b := .slice none 0 0)]
    have hgap : Grow w3 (w3.alloc (.cells #[.int .i64 (n : Int), y.val] 105)) := (Keep.refl _ _).alloc _
    refine app_own elemPg (by simp only [upd_at, Nat.reduceEqDiff, reduceIte, ev_tmp, ev_const, List.map_cons, List.map_nil]) (by simp only [upd_at, Nat.reduceEqDiff, reduceIte, ev_tmp, ev_const, List.map_cons, List.map_nil]) (own_keepk ho3 hgap (fun _ _ => id)) Has.newp (m := 1) rfl (by simpa [isCell] using hbc) (by omega) (by omega) (by have := hgap.size; omega) ?_
    intro out' w4 ho4 hg4
    simp (maxSteps := 1000000) (disch := omega) only [↓sy1, sy2, sy3, readOK, sy5, sy6, Nat.reduceEqDiff, ↓reduceIte, sy7, sy8, sy9, sya, oneOf, syb, syc, Nat.reduceAdd, Nat.reduceMul, syd, sye, syf, syg, syh, reduceCtorEq]
    have hk4 : Keep (fun b => some b = (e 3).ownBlock) w3 w4 := (Keep.grow hgap).trans (Keep.grown hg4)
    have hr4 := hk4.heap hr3 (fun hc => by have := (World.ownsRow.lt ho3 _ hc.symm).1; omega)
    refine R_out (MStep.mk hr2 hy hyn hr4 ⟨ps ++ [((n : Int), b)], xs ++ [.int .i64 n, y.val], by simp [upd, e0], by simp [upd, e13], hg3.then hk4 (fun b hb hc => by have := (World.ownsRow.lt ho3 b hc.symm).1; omega), by simpa [upd] using ho4, by have := hk4.size; omega, by simp [hxl]; omega, ?_, hseen.snoc hmok hy hyn hyk hyq⟩)
    intro j hj
    by_cases hji : j < ps.length
    · obtain ⟨h5, u', h6, h7⟩ := hxs j hji
      rw [List.getElem_append_left hji, List.getElem?_append_left (by omega), List.getElem?_append_left (by omega)]
      exact ⟨h5, u', h6, h7⟩
    · have hje : j = ps.length := by simp at hj; omega
      subst hje
      rw [List.getElem_append_right (Nat.le_refl _), List.getElem?_append_right (by omega), List.getElem?_append_right (by omega), show 2 * ps.length - xs.length = 0 from by omega, show 2 * ps.length + 1 - xs.length = 1 from by omega]
      simp only [Nat.sub_self, List.getElem_cons_zero]
      exact ⟨rfl, y.val, rfl, hyv⟩
end
end Go.Proofs.YtgmodahpcpepjaaGreat

/- A cache: it is made; what it tells; a nil one. -/
namespace Go.Proofs.YtgmodahpcpepjaaGreat
open Go
set_option linter.unusedSimpArgs false
open Go.RowKit (intOf)
/-- A copy of numbers. -/
theorem intsClone_spec (s : Value) (vs : List Value) (w : World) (hs : Has 1 w s vs) (hc : ∀ u ∈ vs, isCell u = true) (hl : vs.length ≤ 4398046511104) :
    Calls Tryz.prog 38 #[s] w (Ret fun v w' => w'.ownsRow w.heap.size 3 1 v vs.length vs ∧ Grow w w') := by
  apply enter38
  apply R_in
  obtain ⟨q, hq, hqe⟩ := hs.isnil
  cases q with
  | true =>
    obtain ⟨rfl, rfl⟩ := hqe rfl
    simp (maxSteps := 1000000) (disch := omega) only [↓sy1, sy2, sy3, readOK, sy5, sy6, Nat.reduceEqDiff, ↓reduceIte, sy7, sy8, sy9, sya, oneOf, syb, syc, Nat.reduceAdd, Nat.reduceMul, syd, sye, syf, syg, syh, reduceCtorEq, F38, hq]
    exact R_out ⟨World.ownsRow_nil w _ _ _, Keep.refl _ _⟩
  | false =>
    simp (maxSteps := 1000000) (disch := omega) only [↓sy1, sy2, sy3, readOK, sy5, sy6, Nat.reduceEqDiff, ↓reduceIte, sy7, sy8, sy9, sya, oneOf, syb, syc, Nat.reduceAdd, Nat.reduceMul, syd, sye, syf, syg, syh, reduceCtorEq, F38, hq, fillV]
    have hg0 : Grow w (w.alloc (.cells #[] 3)) := (Keep.refl _ _).alloc _
    refine app_own elemI (by simp only [upd_at, Nat.reduceEqDiff, reduceIte, ev_tmp, ev_const, List.map_cons, List.map_nil]) (by simp only [upd_at, Nat.reduceEqDiff, reduceIte, ev_tmp, ev_const, List.map_cons, List.map_nil]) (World.ownsRow_made w #[] 0 (Nat.le_refl _) (by simp [maxLen]) (by simp)) (hs.grow hg0) (m := vs.length) (by simp) hc (by omega) (by omega) (by simp) ?_
    intro v' w' ho hg
    simp (maxSteps := 1000000) (disch := omega) only [↓sy1, sy2, sy3, readOK, sy5, sy6, Nat.reduceEqDiff, ↓reduceIte, sy7, sy8, sy9, sya, oneOf, syb, syc, Nat.reduceAdd, Nat.reduceMul, syd, sye, syf, syg, syh, reduceCtorEq]
    refine R_out ⟨by simpa using ho, hg0.then (Keep.grown hg) (fun b hb h => ?_)⟩
    simp [Value.ownBlock] at h
    omega
theorem ints_cell (l : List Int) : ∀ u ∈ ints l, isCell u = true := fun u hu => by
  obtain ⟨n, _, rfl⟩ := List.mem_map.1 hu; rfl
section
variable {G : Gh} {κ μ p lq came : Nat} {w : World} {c : Csh}
theorem ccached_spec (h : CacheAt G κ μ w p lq came c) :
    Calls Tryz.prog 8 #[.pointer (some ⟨p, 0, none⟩)] w (Ret fun v w' => w'.ownsRow w.heap.size 3 1 v c.row.length (ints (zs c.row)) ∧ Grow w w') := by
  obtain ⟨hok, hM⟩ := h
  obtain ⟨dm, cm, rv, hc⟩ := hM.cells
  obtain ⟨c0, c1, c2, c3, c4, hdm, hcm, hrow⟩ := hc (Keep.refl _ _)
  have hfew := hok.few
  have hm2 := hok.m2
  apply enter8
  apply R_in
  simp (maxSteps := 1000000) (disch := omega) only [↓sy1, sy2, sy3, readOK, sy5, sy6, Nat.reduceEqDiff, ↓reduceIte, sy7, sy8, sy9, sya, oneOf, syb, syc, Nat.reduceAdd, Nat.reduceMul, syd, sye, syf, syg, syh, reduceCtorEq, F8, c4]
  refine call0 (intsClone_spec rv _ w hrow.has (ints_cell _) (by simp [ints, zs]; omega)) ?_
  rintro v w1 ⟨hv, hg⟩
  simp (maxSteps := 1000000) (disch := omega) only [↓sy1, sy2, sy3, readOK, sy5, sy6, Nat.reduceEqDiff, ↓reduceIte, sy7, sy8, sy9, sya, oneOf, syb, syc, Nat.reduceAdd, Nat.reduceMul, syd, sye, syf, syg, syh, reduceCtorEq]
  have hl : (ints (zs c.row)).length = c.row.length := by simp [ints, zs]
  rw [hl] at hv
  exact R_out ⟨hv, hg⟩
theorem zs_rise {l : List Nat} (h : l.Pairwise (· < ·)) : (zs l).Pairwise (· < ·) := by
  rw [zs, List.pairwise_map]; exact h.imp (fun hab => by omega)
theorem zs_nodup {l : List Nat} (h : l.Nodup) : (zs l).Nodup := by
  unfold List.Nodup at h ⊢
  rw [zs, List.pairwise_map]; exact h.imp (fun hab => by omega)
theorem cdirty_spec (h : CacheAt G κ μ w p lq came c) :
    Calls Tryz.prog 10 #[.pointer (some ⟨p, 0, none⟩)] w (Ret fun v w' => w'.ownsRow w.heap.size 3 1 v c.dirty.length (ints (zs c.dirty)) ∧ Grow w w') := by
  obtain ⟨hok, hM⟩ := h
  obtain ⟨k1, k2, k3, k4, dm, cm, rv, k5, k6, k7, k8, k9, k10, k11⟩ := hM
  obtain ⟨es, clk, hes, hdo, hdf, hmok, hq⟩ := k9
  have hc2 : w.cell? ⟨p, 2, none⟩ = some (.map (some dm)) := by rw [cell_block k5]; rfl
  have hroom := hok.room
  simp only [Csh.cap] at hroom
  have hmost := hok.ok.most
  have hN : c.N = c.D.first.length - c.size - 1 := rfl
  obtain ⟨ks, hks, hperm⟩ := hq.keys hmok (N := c.N) (fun n b hb => (hok.q n b hb).1)
  have hkl : ks.length = c.dirty.length := hperm.length_eq
  apply enter10
  apply R_in
  simp (maxSteps := 1000000) (disch := omega) only [↓sy1, sy2, sy3, readOK, sy5, sy6, Nat.reduceEqDiff, ↓reduceIte, sy7, sy8, sy9, sya, oneOf, syb, syc, Nat.reduceAdd, Nat.reduceMul, syd, sye, syf, syg, syh, reduceCtorEq, F10, hc2]
  refine call0 keys_spec ?_
  rintro _ w1 ⟨rfl, rfl⟩
  have hg1 : Grow w (w.alloc (.cells #[.map (some dm)] 71)) := (Keep.refl _ _).alloc _
  have hb1 := heap_alloc_new w (.cells #[.map (some dm)] 71)
  generalize w.alloc (.cells #[.map (some dm)] 71) = w1 at hg1 hb1 ⊢
  simp (maxSteps := 1000000) (disch := omega) only [↓sy1, sy2, sy3, readOK, sy5, sy6, Nat.reduceEqDiff, ↓reduceIte, sy7, sy8, sy9, sya, oneOf, syb, syc, Nat.reduceAdd, Nat.reduceMul, syd, sye, syf, syg, syh, reduceCtorEq]
  refine call0 (sorted_spec (ks := zs ks) (by rw [cell_block hb1]; rfl) (hg1.gheap hes) hmok hks (fun a ha => ?_) (by simp; omega)) ?_
  · obtain ⟨n, hn, rfl⟩ := List.mem_map.1 ha
    have := (mem_keysQ.1 (hperm.mem_iff.1 hn)).1
    omega
  rintro v w2 ⟨hv, hg2⟩
  have hsort : sortI (zs ks) = zs c.dirty := sortI_eq (zs_nodup (hperm.nodup_iff.2 (nodup_lt (keysQ_rise _ _)))) (zs_rise (keysQ_rise _ _)) (fun a => by
    simp only [zs, List.mem_map]
    constructor
    · rintro ⟨n, hn, rfl⟩; exact ⟨n, hperm.mem_iff.1 hn, rfl⟩
    · rintro ⟨n, hn, rfl⟩; exact ⟨n, hperm.mem_iff.2 hn, rfl⟩)
  rw [hsort, show (zs ks).length = c.dirty.length from by simpa [zs] using hkl] at hv
  simp (maxSteps := 1000000) (disch := omega) only [↓sy1, sy2, sy3, readOK, sy5, sy6, Nat.reduceEqDiff, ↓reduceIte, sy7, sy8, sy9, sya, oneOf, syb, syc, Nat.reduceAdd, Nat.reduceMul, syd, sye, syf, syg, syh, reduceCtorEq]
  exact R_out ⟨own_base hv hg1.size, hg1.trans hg2⟩
end
/-- A new cache. -/
def Csh.new (D : Dsk) (size most : Nat) : Csh := ⟨D, size, most, fun _ => none, []⟩
theorem Csh.new_ok {D : Dsk} {size most : Nat} (hD : D.Ok) (s1 : 1 ≤ size) (s2 : size + 2 ≤ D.first.length) (m1 : 1 ≤ most) (m2 : most ≤ 64) (hf : Flat D) (hc : Calm D) : (Csh.new D size most).Ok :=
  ⟨hD, s1, s2, m1, m2, fun n b hb => (by cases hb), by rw [show (Csh.new D size most).dirty = [] from keysQ_none _]; exact Nat.zero_le _, List.nodup_nil, Nat.zero_le _, fun n hn => (by cases hn), hf, hc⟩
theorem fillF_cache {a b c d e x y z u : Value} (hx : isCell x = true) (hy : isCell y = true) (hz : isCell z = true) (hu : isCell u = true) : fillF #[a, b, c, d, e] [(0, 1, x), (1, 1, y), (2, 1, z), (3, 1, u)] = some #[x, y, z, u, e] := by
  rw [fillF_cell hx (by simp), fillF_cell hy (by simp), fillF_cell hz (by simp), fillF_cell hu (by simp), fillF_nil]; simp
theorem fillF_2of4 {a b c d x y : Value} (hx : isCell x = true) (hy : isCell y = true) : fillF #[a, b, c, d] [(0, 1, x), (1, 1, y)] = some #[x, y, c, d] := by
  rw [fillF_cell hx (by simp), fillF_cell hy (by simp), fillF_nil]; simp
theorem agg5_cells {x y z u v : Value} (hx : isCell x = true) (hy : isCell y = true) (hz : isCell z = true) (hu : isCell u = true) (hv : isCell v = true) : (Value.agg #[x, y, z, u, v]).cells = #[x, y, z, u, v] := by
  simp [Value.cells, isCell_cells hx, isCell_cells hy, isCell_cells hz, isCell_cells hu, isCell_cells hv]
theorem cnew_bad {w : World} {v : Value} {lq : Nat} {n : Int} (hn : n < 1 ∨ 64 < n) :
    Calls Tryz.prog 26 #[.pointer (some ⟨lq, 0, none⟩), .int .i64 n] w (Ret fun v w' => v = .tuple #[.pointer none, .int .i64 2] ∧ w' = w) := by
  apply enter26
  apply R_in
  by_cases h1 : n < 1
  · simp (maxSteps := 1000000) (disch := omega) only [↓sy1, sy2, sy3, readOK, sy5, sy6, Nat.reduceEqDiff, ↓reduceIte, sy7, sy8, sy9, sya, oneOf, syb, syc, Nat.reduceAdd, Nat.reduceMul, syd, sye, syf, syg, syh, reduceCtorEq, F26, h1, decide_true]
    exact R_out trivial
  · simp (maxSteps := 1000000) (disch := omega) only [↓sy1, sy2, sy3, readOK, sy5, sy6, Nat.reduceEqDiff, ↓reduceIte, sy7, sy8, sy9, sya, oneOf, syb, syc, Nat.reduceAdd, Nat.reduceMul, syd, sye, syf, syg, syh, reduceCtorEq, F26, h1, decide_false, show (64 : Int) < n from by omega, decide_true]
    exact R_out trivial
theorem cnew_nil {w : World} {n : Int} : Calls Tryz.prog 26 #[.pointer none, .int .i64 n] w (Ret fun v w' => v = .tuple #[.pointer none, .int .i64 1] ∧ w' = w) := by
  apply enter26
  apply R_in
  simp (maxSteps := 1000000) (disch := omega) only [↓sy1, sy2, sy3, readOK, sy5, sy6, Nat.reduceEqDiff, ↓reduceIte, sy7, sy8, sy9, sya, oneOf, syb, syc, Nat.reduceAdd, Nat.reduceMul, syd, sye, syf, syg, syh, reduceCtorEq, F26]
  exact R_out trivial
theorem cnew_spec {G : Gh} {κ : Nat} {w : World} {lq size came most : Nat} {D : Dsk} (μ : Nat) (hμ : μ ≠ 0) (hκ : κ ≠ μ) (h : LogAt G κ w lq size came D) (hf : Flat D) (hc : Calm D) (m1 : 1 ≤ most) (m2 : most ≤ 64) :
    Calls Tryz.prog 26 #[.pointer (some ⟨lq, 0, none⟩), .int .i64 most] w (Ret fun v w' => ∃ p G', v = .tuple #[.pointer (some ⟨p, 0, none⟩), .int .i64 0] ∧ w.heap.size ≤ p ∧ CacheAt G' κ μ w' p lq came (Csh.new D size most) ∧ Ext0 G w G' w') := by
  have hD := h.cells.choose_spec.1.ok
  have s1 := h.2.1
  have s2 := h.2.2.1
  apply enter26
  apply R_in
  simp (maxSteps := 1000000) (disch := omega) only [↓sy1, sy2, sy3, readOK, sy5, sy6, Nat.reduceEqDiff, ↓reduceIte, sy7, sy8, sy9, sya, oneOf, syb, syc, Nat.reduceAdd, Nat.reduceMul, syd, sye, syf, syg, syh, reduceCtorEq, F26, show ¬ ((most : Int) < 1) from by omega, show ¬ ((64 : Int) < (most : Int)) from by omega, decide_false, fill_gen, fillF_cache (x := .pointer (some ⟨lq, 0, none⟩)) (y := .int .i64 most) (z := .map (some w.heap.size)) (u := .map (some (w.alloc (.map #[] 0)).heap.size)) rfl rfl rfl rfl,
    agg5_cells (x := .pointer (some ⟨lq, 0, none⟩)) (y := .int .i64 most) (z := .map (some w.heap.size)) (u := .map (some (w.alloc (.map #[] 0)).heap.size)) (v := .slice none 0 0) rfl rfl rfl rfl rfl]
  have hg1 : Grow w (w.alloc (.map #[] 0)) := (Keep.refl _ _).alloc _
  have hm1 := heap_alloc_new w (.map #[] 0)
  have hs1 : (w.alloc (.map #[] 0)).heap.size = w.heap.size + 1 := by simp
  generalize w.alloc (.map #[] 0) = w1 at hg1 hm1 hs1 ⊢
  have hg2 : Grow w1 (w1.alloc (.map #[] 0)) := (Keep.refl _ _).alloc _
  have hm2 := heap_alloc_new w1 (.map #[] 0)
  have hs2 : (w1.alloc (.map #[] 0)).heap.size = w1.heap.size + 1 := by simp
  generalize w1.alloc (.map #[] 0) = w2 at hg2 hm2 hs2 ⊢
  have hg3 : Grow w2 (w2.alloc (.cells #[.pointer (some ⟨lq, 0, none⟩), .int .i64 most, .map (some w.heap.size), .map (some w1.heap.size), .slice none 0 0] 73)) := (Keep.refl _ _).alloc _
  have hp := heap_alloc_new w2 (.cells #[.pointer (some ⟨lq, 0, none⟩), .int .i64 most, .map (some w.heap.size), .map (some w1.heap.size), .slice none 0 0] 73)
  generalize w2.alloc (.cells #[.pointer (some ⟨lq, 0, none⟩), .int .i64 most, .map (some w.heap.size), .map (some w1.heap.size), .slice none 0 0] 73) = w3 at hg3 hp ⊢
  have hgw : Grow w w3 := (hg1.trans hg2).trans hg3
  have hx : Ext0 G w (G.upto w.heap.size (fun _ => μ) (fun _ => 0)) w3 := .upto hgw _ _
  have hno : ∀ b, w.heap.size ≤ b → (G.upto w.heap.size (fun _ => μ) (fun _ => 0)).own b = μ ∧ (G.upto w.heap.size (fun _ => μ) (fun _ => 0)).fix b = 0 := fun b hb => by simp [Gh.upto, Nat.not_lt.2 hb]
  refine R_out ⟨w2.heap.size, _, rfl, by omega, ⟨Csh.new_ok hD s1 s2 m1 m2 hf hc, hκ, hμ, by simp [Csh.new], h.ext hx id id, w.heap.size, w1.heap.size, .slice none 0 0, hp, (hno _ (by omega)).1, (hno _ (by omega)).2, by omega,
    .new ((hg2.trans hg3).gheap hm1) (hno _ (by omega)).1 (hno _ (by omega)).2, ?_, ?_⟩, hx⟩
  · have : cleanQ (Csh.new D size most).D (Csh.new D size most).size (Csh.new D size most).row = fun _ => none := by funext k; simp [cleanQ, Csh.new]
    rw [this]
    exact .new (hg3.gheap hm2) (hno _ (by omega)).1 (hno _ (by omega)).2
  · exact ⟨World.ownsRow_nil w3 _ _ _, fun b hb => (by cases hb)⟩
/-! A nil cache. -/
section
variable {w : World}
theorem cread_nil {n : Int} : Calls Tryz.prog 28 #[.pointer none, .int .i64 n] w (Ret fun v w' => v = .tuple #[.slice none 0 0, .int .i64 1] ∧ w' = w) := by
  have hlook : Calls Tryz.prog 57 #[.pointer none, .int .i64 n] w (Ret fun v w' => v = .int .i64 1 ∧ w' = w) := by
    apply enter57
    apply R_in
    simp (maxSteps := 1000000) (disch := omega) only [↓sy1, sy2, sy3, readOK, sy5, sy6, Nat.reduceEqDiff, ↓reduceIte, sy7, sy8, sy9, sya, oneOf, syb, syc, Nat.reduceAdd, Nat.reduceMul, syd, sye, syf, syg, syh, reduceCtorEq, F57]
    exact R_out trivial
  apply enter28
  apply R_in
  simp (maxSteps := 1000000) (disch := omega) only [↓sy1, sy2, sy3, readOK, sy5, sy6, Nat.reduceEqDiff, ↓reduceIte, sy7, sy8, sy9, sya, oneOf, syb, syc, Nat.reduceAdd, Nat.reduceMul, syd, sye, syf, syg, syh, reduceCtorEq, F28]
  refine call0 hlook ?_
  rintro _ w1 ⟨rfl, rfl⟩
  simp (maxSteps := 1000000) (disch := omega) only [↓sy1, sy2, sy3, readOK, sy5, sy6, Nat.reduceEqDiff, ↓reduceIte, sy7, sy8, sy9, sya, oneOf, syb, syc, Nat.reduceAdd, Nat.reduceMul, syd, sye, syf, syg, syh, reduceCtorEq, show ¬ ((1 : Int) = 0) from by omega, decide_false, Bool.not_false]
  exact R_out trivial
theorem cwrite_nil {n : Int} {v : Value} : Calls Tryz.prog 29 #[.pointer none, .int .i64 n, v] w (Ret fun v w' => v = .int .i64 1 ∧ w' = w) := by
  have hlook : Calls Tryz.prog 57 #[.pointer none, .int .i64 n] w (Ret fun v w' => v = .int .i64 1 ∧ w' = w) := by
    apply enter57
    apply R_in
    simp (maxSteps := 1000000) (disch := omega) only [↓sy1, sy2, sy3, readOK, sy5, sy6, Nat.reduceEqDiff, ↓reduceIte, sy7, sy8, sy9, sya, oneOf, syb, syc, Nat.reduceAdd, Nat.reduceMul, syd, sye, syf, syg, syh, reduceCtorEq, F57]
    exact R_out trivial
  apply enter29
  apply R_in
  simp (maxSteps := 1000000) (disch := omega) only [↓sy1, sy2, sy3, readOK, sy5, sy6, Nat.reduceEqDiff, ↓reduceIte, sy7, sy8, sy9, sya, oneOf, syb, syc, Nat.reduceAdd, Nat.reduceMul, syd, sye, syf, syg, syh, reduceCtorEq, F29]
  refine call0 hlook ?_
  rintro _ w1 ⟨rfl, rfl⟩
  simp (maxSteps := 1000000) (disch := omega) only [↓sy1, sy2, sy3, readOK, sy5, sy6, Nat.reduceEqDiff, ↓reduceIte, sy7, sy8, sy9, sya, oneOf, syb, syc, Nat.reduceAdd, Nat.reduceMul, syd, sye, syf, syg, syh, reduceCtorEq, show ¬ ((1 : Int) = 0) from by omega, decide_false, Bool.not_false]
  exact R_out trivial
theorem ccommit_nil : Calls Tryz.prog 31 #[.pointer none] w (Ret fun v w' => v = .int .i64 1 ∧ w' = w) := by
  apply enter31
  apply R_in
  simp (maxSteps := 1000000) (disch := omega) only [↓sy1, sy2, sy3, readOK, sy5, sy6, Nat.reduceEqDiff, ↓reduceIte, sy7, sy8, sy9, sya, oneOf, syb, syc, Nat.reduceAdd, Nat.reduceMul, syd, sye, syf, syg, syh, reduceCtorEq, F31]
  exact R_out trivial
theorem cabort_nil : Calls Tryz.prog 36 #[.pointer none] w (Ret fun v w' => v = .int .i64 0 ∧ w' = w) := by
  apply enter36
  apply R_in
  simp (maxSteps := 1000000) (disch := omega) only [↓sy1, sy2, sy3, readOK, sy5, sy6, Nat.reduceEqDiff, ↓reduceIte, sy7, sy8, sy9, sya, oneOf, syb, syc, Nat.reduceAdd, Nat.reduceMul, syd, sye, syf, syg, syh, reduceCtorEq, F36]
  exact R_out trivial
theorem cdirty_nil : Calls Tryz.prog 10 #[.pointer none] w (Ret fun v w' => v = .slice none 0 0 ∧ w' = w) := by
  apply enter10
  apply R_in
  simp (maxSteps := 1000000) (disch := omega) only [↓sy1, sy2, sy3, readOK, sy5, sy6, Nat.reduceEqDiff, ↓reduceIte, sy7, sy8, sy9, sya, oneOf, syb, syc, Nat.reduceAdd, Nat.reduceMul, syd, sye, syf, syg, syh, reduceCtorEq, F10]
  exact R_out trivial
theorem ccached_nil : Calls Tryz.prog 8 #[.pointer none] w (Ret fun v w' => v = .slice none 0 0 ∧ w' = w) := by
  apply enter8
  apply R_in
  simp (maxSteps := 1000000) (disch := omega) only [↓sy1, sy2, sy3, readOK, sy5, sy6, Nat.reduceEqDiff, ↓reduceIte, sy7, sy8, sy9, sya, oneOf, syb, syc, Nat.reduceAdd, Nat.reduceMul, syd, sye, syf, syg, syh, reduceCtorEq, F8]
  exact R_out trivial
theorem croom_nil : Calls Tryz.prog 12 #[.pointer none] w (Ret fun v w' => v = .int .i64 0 ∧ w' = w) := by
  apply enter12
  apply R_in
  simp (maxSteps := 1000000) (disch := omega) only [↓sy1, sy2, sy3, readOK, sy5, sy6, Nat.reduceEqDiff, ↓reduceIte, sy7, sy8, sy9, sya, oneOf, syb, syc, Nat.reduceAdd, Nat.reduceMul, syd, sye, syf, syg, syh, reduceCtorEq, F12]
  exact R_out trivial
theorem clog_nil : Calls Tryz.prog 15 #[.pointer none] w (Ret fun v w' => v = .pointer none ∧ w' = w) := by
  apply enter15
  apply R_in
  simp (maxSteps := 1000000) (disch := omega) only [↓sy1, sy2, sy3, readOK, sy5, sy6, Nat.reduceEqDiff, ↓reduceIte, sy7, sy8, sy9, sya, oneOf, syb, syc, Nat.reduceAdd, Nat.reduceMul, syd, sye, syf, syg, syh, reduceCtorEq, F15]
  exact R_out trivial
end
end Go.Proofs.YtgmodahpcpepjaaGreat

/- The law's deeds, caches over new disks, all pages, what must be whatever is asked. -/
namespace Go.Proofs.YtgmodahpcpepjaaGreat
open Go
set_option linter.unusedSimpArgs false
open Go.RowKit (intOf)
structure Deed4 where
  kind : Int
  page : Int
  byte : UInt8
  short : Bool
def Deed4.val (x : Deed4) : Value := .agg #[.int .i64 x.kind, .int .i64 x.page, .int .u8 (x.byte.toNat : Int), .bool x.short]
def Deed4.data (x : Deed4) : List UInt8 := List.replicate (if x.short then 511 else 512) x.byte
theorem Deed4.data_length (x : Deed4) : x.data.length = if x.short then 511 else 512 := List.length_replicate
theorem Deed4.data_le (x : Deed4) : x.data.length ≤ 512 := by rw [x.data_length]; split <;> omega
set_option maxHeartbeats 1000000 in
theorem d4bytes_spec {w : World} (x : Deed4) :
    Calls Tryz.prog 30 #[x.val] w (Ret fun v w' => w'.ownsRow w.heap.size 5 1 v x.data.length (bs x.data) ∧ Grow w w') := by
  have hcells := agg4_cells (x := .int .i64 x.kind) (y := .int .i64 x.page) (z := .int .u8 (x.byte.toNat : Int)) (u := .bool x.short) rfl rfl rfl rfl
  have hb0 := heap_alloc_new w (.cells #[.int .i64 x.kind, .int .i64 x.page, .int .u8 (x.byte.toNat : Int), .bool x.short] 30)
  have hg0 : Grow w (w.alloc (.cells #[.int .i64 x.kind, .int .i64 x.page, .int .u8 (x.byte.toNat : Int), .bool x.short] 30)) := (Keep.refl _ _).alloc _
  apply enter30
  apply R_in
  unfold Deed4.val
  simp (maxSteps := 1000000) (disch := omega) only [↓sy1, sy2, sy3, readOK, sy5, sy6, Nat.reduceEqDiff, ↓reduceIte, sy7, sy8, sy9, sya, oneOf, syb, syc, Nat.reduceAdd, Nat.reduceMul, syd, sye, syf, syg, syh, reduceCtorEq, F30, hcells]
  generalize w.alloc (.cells #[.int .i64 x.kind, .int .i64 x.page, .int .u8 (x.byte.toNat : Int), .bool x.short] 30) = w0 at hb0 hg0 ⊢
  have hB0 : w.heap.size < w0.heap.size := (Array.getElem?_eq_some_iff.1 hb0).1
  have hc3 : w0.cell? ⟨w.heap.size, 3, none⟩ = some (.bool x.short) := by rw [cell_block hb0]; rfl
  have hdl := x.data_length
  have hdle := x.data_le
  have hdat : x.data = List.replicate x.data.length x.byte := by rw [x.data_length]; rfl
  cases hs : x.short
  all_goals
    rw [hs] at hc3 hdl
    simp only [Bool.false_eq_true, if_true, if_false] at hdl
    simp (maxSteps := 1000000) (disch := omega) only [↓sy1, sy2, sy3, readOK, sy5, sy6, Nat.reduceEqDiff, ↓reduceIte, sy7, sy8, sy9, sya, oneOf, syb, syc, Nat.reduceAdd, Nat.reduceMul, syd, sye, syf, syg, syh, reduceCtorEq, hc3]
    refine mk_rule elemB (kx := .i64) (ky := .i64) (a := x.data.length) (c := x.data.length) (by simp only [upd_at, Nat.reduceEqDiff, reduceIte, ev_tmp, ev_const, List.map_cons, List.map_nil]; rw [hdl]; rfl) (by simp only [upd_at, Nat.reduceEqDiff, reduceIte, ev_tmp, ev_const, List.map_cons, List.map_nil]; rw [hdl]; rfl) (by omega) (by omega) (by omega) (by omega) rfl ?_
    have hg1 : Grow w0 (w0.alloc (.cells (Array.replicate (x.data.length : Int).toNat (.int .u8 0)) 5)) := (Keep.refl _ _).alloc _
    have ho1 := own_made w0 w0.heap.size (Nat.le_refl _) 5 (x.data.length : Int).toNat (by rw [Int.toNat_natCast]; omega) (.int .u8 0)
    generalize w0.alloc (.cells (Array.replicate (x.data.length : Int).toNat (.int .u8 0)) 5) = w1 at hg1 ho1 ⊢
    rw [Int.toNat_natCast] at ho1 ⊢
    generalize (Value.slice (some ⟨w0.heap.size, 0, none⟩) x.data.length x.data.length) = bv at ho1 ⊢
    have hn3 : (Value.int .i64 (x.data.length : Int)) = .int .i64 (x.data.length : Nat) := rfl
    simp (maxSteps := 1000000) (disch := omega) only [↓sy1, sy2, sy3, readOK, sy5, sy6, Nat.reduceEqDiff, ↓reduceIte, sy7, sy8, sy9, sya, oneOf, syb, syc, Nat.reduceAdd, Nat.reduceMul, syd, sye, syf, syg, syh, reduceCtorEq]
    refine loop_rule (fun e w' => ∃ k : Nat, k ≤ x.data.length ∧ e 5 = .int .i64 k ∧ e 4 = bv ∧ e 3 = .int .i64 x.data.length ∧ e 1 = .pointer (some ⟨w.heap.size, 0, none⟩) ∧ Grow w0 w' ∧
        w'.ownsRow w0.heap.size 5 1 bv x.data.length (List.replicate k (.int .u8 (x.byte.toNat : Int)) ++ List.replicate (x.data.length - k) (.int .u8 0))) (fun e _ => x.data.length - (intOf (e 5)).toNat)
      ⟨0, by omega, by simp [upd, updO, ev], by simp [upd, updO, ev], by simp [upd, updO, ev, hdl], by simp [upd, updO, ev], hg1, ho1⟩ ?_
    rintro e w3 ⟨k, hk, e5, e4, e3, e1, hg3, ho3⟩
    have hc2 : w3.cell? ⟨w.heap.size, 2, none⟩ = some (.int .u8 (x.byte.toNat : Int)) := by rw [cell_block (hg3.gheap hb0)]; rfl
    by_cases hlt : k < x.data.length
    · obtain ⟨a, w4, ha, hst, ho4, hk4, hbk⟩ := own_store ho3 hlt (u := .int .u8 (x.byte.toNat : Int)) rfl
      simp (maxSteps := 1000000) (disch := omega) only [↓sy1, sy2, sy3, readOK, sy5, sy6, Nat.reduceEqDiff, ↓reduceIte, sy7, sy8, sy9, sya, oneOf, syb, syc, Nat.reduceAdd, Nat.reduceMul, syd, sye, syf, syg, syh, reduceCtorEq, F30_L0, e5, e4, e3, e1, Int.ofNat_lt, hlt, decide_true, hc2, ha, hst]
      refine R_out ⟨⟨k + 1, by omega, rfl, hg3.then hk4 (fun b hb h => by have := (World.ownsRow.lt ho3 b h).1; omega), ?_⟩, by simp only [intOf]; omega⟩
      have : (List.replicate k (Value.int .u8 (x.byte.toNat : Int)) ++ List.replicate (x.data.length - k) (Value.int .u8 0)).set k (Value.int .u8 (x.byte.toNat : Int)) = List.replicate (k + 1) (Value.int .u8 (x.byte.toNat : Int)) ++ List.replicate (x.data.length - (k + 1)) (Value.int .u8 0) := by
        rw [List.set_append_right _ _ (by simp), List.length_replicate, Nat.sub_self, show x.data.length - k = (x.data.length - (k + 1)) + 1 from by omega, List.replicate_succ, List.replicate_succ']
        simp
      rw [this] at ho4; exact ho4
    · have hke : k = x.data.length := by omega
      subst hke
      have hbs : List.replicate x.data.length (Value.int .u8 (x.byte.toNat : Int)) ++ List.replicate (x.data.length - x.data.length) (Value.int .u8 0) = bs x.data := by
        rw [Nat.sub_self, List.replicate_zero, List.append_nil]
        conv => rhs; rw [hdat]
        rw [bs, List.map_replicate]
      rw [hbs] at ho3
      simp (maxSteps := 1000000) (disch := omega) only [↓sy1, sy2, sy3, readOK, sy5, sy6, Nat.reduceEqDiff, ↓reduceIte, sy7, sy8, sy9, sya, oneOf, syb, syc, Nat.reduceAdd, Nat.reduceMul, syd, sye, syf, syg, syh, reduceCtorEq, F30_L0, e5, e4, e3, e1, Int.ofNat_lt, hlt, decide_false]
      exact R_out ⟨own_base ho3 (by omega), hg0.trans hg3⟩
theorem rcnew_bad {w : World} {rq : Nat} {n : Int} (hn : n < 1 ∨ 64 < n) :
    Calls Tryz.prog 27 #[.pointer (some ⟨rq, 0, none⟩), .int .i64 n] w (Ret fun v w' => v = .tuple #[.pointer none, .int .i64 2] ∧ w' = w) := by
  apply enter27
  apply R_in
  by_cases h1 : n < 1
  · simp (maxSteps := 1000000) (disch := omega) only [↓sy1, sy2, sy3, readOK, sy5, sy6, Nat.reduceEqDiff, ↓reduceIte, sy7, sy8, sy9, sya, oneOf, syb, syc, Nat.reduceAdd, Nat.reduceMul, syd, sye, syf, syg, syh, reduceCtorEq, F27, h1, decide_true]
    exact R_out trivial
  · simp (maxSteps := 1000000) (disch := omega) only [↓sy1, sy2, sy3, readOK, sy5, sy6, Nat.reduceEqDiff, ↓reduceIte, sy7, sy8, sy9, sya, oneOf, syb, syc, Nat.reduceAdd, Nat.reduceMul, syd, sye, syf, syg, syh, reduceCtorEq, F27, h1, decide_false, show (64 : Int) < n from by omega, decide_true]
    exact R_out trivial
theorem rcnew_spec {G : Gh} {w : World} {rq most : Nat} (μ : Nat) (m1 : 1 ≤ most) (m2 : most ≤ 64) :
    Calls Tryz.prog 27 #[.pointer (some ⟨rq, 0, none⟩), .int .i64 most] w (Ret fun v w' => ∃ r G', v = .tuple #[.pointer (some ⟨r, 0, none⟩), .int .i64 0] ∧ w.heap.size ≤ r ∧ w'.heap[r]? = some (.cells #[.pointer (some ⟨rq, 0, none⟩), .int .i64 most, .slice none 0 0, .slice none 0 0] 46 (0, 0)) ∧ G'.own r = μ ∧ G'.fix r = 0 ∧ Ext0 G w G' w') := by
  apply enter27
  apply R_in
  simp (maxSteps := 1000000) (disch := omega) only [↓sy1, sy2, sy3, readOK, sy5, sy6, Nat.reduceEqDiff, ↓reduceIte, sy7, sy8, sy9, sya, oneOf, syb, syc, Nat.reduceAdd, Nat.reduceMul, syd, sye, syf, syg, syh, reduceCtorEq, F27, show ¬ ((most : Int) < 1) from by omega, show ¬ ((64 : Int) < (most : Int)) from by omega, decide_false, fill_gen, List.map_cons, List.map_nil, fillF_2of4 (x := .pointer (some ⟨rq, 0, none⟩)) (y := .int .i64 most) rfl rfl,
    agg4_cells (x := .pointer (some ⟨rq, 0, none⟩)) (y := .int .i64 most) (z := .slice none 0 0) (u := .slice none 0 0) rfl rfl rfl rfl]
  have hg3 : Grow w (w.alloc (.cells #[.pointer (some ⟨rq, 0, none⟩), .int .i64 most, .slice none 0 0, .slice none 0 0] 46)) := (Keep.refl _ _).alloc _
  have hp := heap_alloc_new w (.cells #[.pointer (some ⟨rq, 0, none⟩), .int .i64 most, .slice none 0 0, .slice none 0 0] 46)
  generalize w.alloc (.cells #[.pointer (some ⟨rq, 0, none⟩), .int .i64 most, .slice none 0 0, .slice none 0 0] 46) = w3 at hg3 hp ⊢
  have hx : Ext0 G w (G.upto w.heap.size (fun _ => μ) (fun _ => 0)) w3 := .upto hg3 _ _
  refine R_out ⟨w.heap.size, _, rfl, Nat.le_refl _, hp, by simp [Gh.upto], by simp [Gh.upto], hx⟩
/-- Both caches. -/
theorem copen_spec (G : Gh) {w : World} {size most : Nat} (κ κ' μ μ' : Nat) (hκ : κ ≠ 0) (hκ' : κ' ≠ 0) (hμ : μ ≠ 0) (hμ' : μ' ≠ 0) (hne : κ ≠ μ) (h1 : 1 ≤ size) (h2 : size ≤ 100) (m1 : 1 ≤ most) (m2 : most ≤ 64) :
    Calls Tryz.prog 4 #[.int .i64 size, .int .i64 most] w (Ret fun v w' => ∃ p r lq rq G', v = .tuple #[.pointer (some ⟨p, 0, none⟩), .pointer (some ⟨r, 0, none⟩), .bool true] ∧ w.heap.size ≤ p ∧ w.heap.size ≤ r ∧ CacheAt G' κ μ w' p lq 0 (Csh.new (Dsk.zero (size + 12)) size most) ∧ RLogAt G' κ' w' rq size 0 (Dsk.zero (size + 12)) ∧
      w'.heap[r]? = some (.cells #[.pointer (some ⟨rq, 0, none⟩), .int .i64 most, .slice none 0 0, .slice none 0 0] 46 (0, 0)) ∧ G'.own r = μ' ∧ G'.fix r = 0 ∧ Ext0 G w G' w') := by
  apply enter4
  apply R_in
  simp (maxSteps := 1000000) (disch := omega) only [↓sy1, sy2, sy3, readOK, sy5, sy6, Nat.reduceEqDiff, ↓reduceIte, sy7, sy8, sy9, sya, oneOf, syb, syc, Nat.reduceAdd, Nat.reduceMul, syd, sye, syf, syg, syh, reduceCtorEq, F4]
  rw [show (size : Int) + 12 = ((size + 12 : Nat) : Int) from by omega]
  refine call0 (new_spec G 1 (n := size + 12) (by omega) (by omega)) ?_
  rintro _ w1 ⟨p, G1, rfl, hp1, hd1, hx1⟩
  simp (maxSteps := 1000000) (disch := omega) only [↓sy1, sy2, sy3, readOK, sy5, sy6, Nat.reduceEqDiff, ↓reduceIte, sy7, sy8, sy9, sya, oneOf, syb, syc, Nat.reduceAdd, Nat.reduceMul, syd, sye, syf, syg, syh, reduceCtorEq]
  rw [show (size : Int) + 12 = ((size + 12 : Nat) : Int) from by omega]
  refine call0 (rnew_spec G1 2 (n := size + 12) (by omega) (by omega)) ?_
  rintro _ w2 ⟨r, G2, rfl, hr1, hr2, hx2⟩
  simp (maxSteps := 1000000) (disch := omega) only [↓sy1, sy2, sy3, readOK, sy5, sy6, Nat.reduceEqDiff, ↓reduceIte, sy7, sy8, sy9, sya, oneOf, syb, syc, Nat.reduceAdd, Nat.reduceMul, syd, sye, syf, syg, syh, reduceCtorEq]
  refine call0 (open_spec κ hκ (hd1.ext hx2 id) h1 (by rw [zero_len]; omega) (.inl (zero_image (by omega)))) ?_
  rintro _ w3 ⟨q, G3, rfl, hq3, hl3, hx3⟩
  simp (maxSteps := 1000000) (disch := omega) only [↓sy1, sy2, sy3, readOK, sy5, sy6, Nat.reduceEqDiff, ↓reduceIte, sy7, sy8, sy9, sya, oneOf, syb, syc, Nat.reduceAdd, Nat.reduceMul, syd, sye, syf, syg, syh, reduceCtorEq]
  refine call0 (ropen0_spec κ' hκ' (hr2.ext hx3 id) h1 (by rw [zero_len]; omega) (zero_image (by omega))) ?_
  rintro _ w4 ⟨r4, G4, rfl, hr4, hl4, hx4⟩
  simp (maxSteps := 1000000) (disch := omega) only [↓sy1, sy2, sy3, readOK, sy5, sy6, Nat.reduceEqDiff, ↓reduceIte, sy7, sy8, sy9, sya, oneOf, syb, syc, Nat.reduceAdd, Nat.reduceMul, syd, sye, syf, syg, syh, reduceCtorEq]
  refine call0 (cnew_spec μ hμ hne (hl3.ext hx4 id id) (zero_flat _) (zero_calm (by omega)) m1 m2) ?_
  rintro _ w5 ⟨p5, G5, rfl, hp5, hc5, hx5⟩
  simp (maxSteps := 1000000) (disch := omega) only [↓sy1, sy2, sy3, readOK, sy5, sy6, Nat.reduceEqDiff, ↓reduceIte, sy7, sy8, sy9, sya, oneOf, syb, syc, Nat.reduceAdd, Nat.reduceMul, syd, sye, syf, syg, syh, reduceCtorEq]
  refine call0 (rcnew_spec (G := G5) μ' m1 m2) ?_
  rintro _ w6 ⟨r6, G6, rfl, hr6, hb6, ho6, hf6, hx6⟩
  simp (maxSteps := 1000000) (disch := omega) only [↓sy1, sy2, sy3, readOK, sy5, sy6, Nat.reduceEqDiff, ↓reduceIte, sy7, sy8, sy9, sya, oneOf, syb, syc, Nat.reduceAdd, Nat.reduceMul, syd, sye, syf, syg, syh, reduceCtorEq, decide_true, beq_self_eq_true]
  have hs := (((hx1.trans hx2).trans hx3).trans hx4).size
  have hs5 := hx5.size
  exact R_out ⟨p5, r6, q, r4, G6, rfl, by omega, by omega, hc5.ext hx6 id id id, (hl4.ext hx5 id id).ext hx6 id id, hb6, ho6, hf6, ((((hx1.trans hx2).trans hx3).trans hx4).trans hx5).trans hx6⟩
end Go.Proofs.YtgmodahpcpepjaaGreat

/- What must be whatever is asked (caches). -/
namespace Go.Proofs.YtgmodahpcpepjaaGreat
open Go
set_option linter.unusedSimpArgs false
open Go.RowKit (intOf)
section
variable {c : Csh} {n m : Nat} {b : List UInt8}
theorem Csh.read_q (c : Csh) (n : Nat) : (c.read n).q = c.q := by unfold Csh.read; split <;> rfl
theorem Csh.read_D (c : Csh) (n : Nat) : (c.read n).D = c.D := by unfold Csh.read; split <;> rfl
theorem Csh.read_size (c : Csh) (n : Nat) : (c.read n).size = c.size := by unfold Csh.read; split <;> rfl
theorem Csh.read_most (c : Csh) (n : Nat) : (c.read n).most = c.most := by unfold Csh.read; split <;> rfl
theorem Csh.read_N (c : Csh) (n : Nat) : (c.read n).N = c.N := by simp only [Csh.N, Csh.read_D, Csh.read_size]
theorem Csh.read_dirty (c : Csh) (n : Nat) : (c.read n).dirty = c.dirty := by simp only [Csh.dirty, Csh.read_q, Csh.read_N]
theorem Csh.read_page (c : Csh) (n m : Nat) : (c.read n).page m = c.page m := by simp only [Csh.page, Csh.read_q, Csh.read_D, Csh.read_size]
theorem Csh.write_N (c : Csh) (n : Nat) (b : List UInt8) : (c.write n b).N = c.N := rfl
theorem Csh.write_page (c : Csh) (n m : Nat) (b : List UInt8) : (c.write n b).page m = if m = n then b else c.page m := by
  simp only [Csh.page, Csh.write, qput]
  split <;> rfl
theorem Csh.commit_N (c : Csh) : c.commit.N = c.N := by simp only [Csh.N, Csh.commit_first]; rfl
theorem Csh.commit_page (hc : c.Ok) (hn : n < c.N) : c.commit.page n = c.page n := by
  rw [← Csh.commit_image hc hn]; rfl
theorem Csh.dirty_commit (c : Csh) : c.commit.dirty = [] := keysQ_none _
theorem Csh.new_dirty (D : Dsk) (size most : Nat) : (Csh.new D size most).dirty = [] := keysQ_none _
theorem Csh.page_length (hc : c.Ok) (hn : n < c.N) : (c.page n).length = 512 := by
  unfold Csh.page
  cases hq : c.q n with
  | none => exact page_len hc hn
  | some b => exact (hc.q n b hq).2
/-- What a page is, behind a write that was taken. -/
theorem Csh.wcode_ok (h : c.wcode n b.length = 0) : n < c.N ∧ b.length = 512 := by
  unfold Csh.wcode at h
  split at h
  · cases h
  · split at h
    · cases h
    · exact ⟨by omega, by omega⟩
end
def live4 : Deed4 := ⟨0, 0, 3, false⟩
def lc0 : Csh := Csh.new (Dsk.zero 17) 5 1
def lc2 : Csh := (lc0.read 0).read 1
def lc3 : Csh := lc2.write 2 live4.data
theorem lc0_N : lc0.N = 11 := by show (Dsk.zero 17).first.length - 5 - 1 = 11; rw [zero_len]
theorem lc2_N : lc2.N = 11 := by rw [lc2, Csh.read_N, Csh.read_N, lc0_N]
theorem lc2_dirty : lc2.dirty = [] := by rw [lc2, Csh.read_dirty, Csh.read_dirty]; exact Csh.new_dirty _ _ _
theorem lc2_cap : lc2.cap = 5 := rfl
theorem lc2_row : lc2.row = [1] := rfl
theorem lc2_code : lc2.wcode 2 live4.data.length = 0 := by
  have hl : live4.data.length = 512 := live4.data_length
  unfold Csh.wcode
  rw [hl, lc2_N, lc2_cap, lc2_dirty]
  simp
theorem lc3_commit_page : lc3.Ok → lc3.commit.page 2 = live4.data := fun h => by
  rw [Csh.commit_page h (by rw [lc3, Csh.write_N, lc2_N]; omega), lc3, Csh.write_page]; simp
set_option maxHeartbeats 2000000 in
theorem live4_spec (w : World) : Calls Tryz.prog 5 #[] w (Ret fun v w' => v = .bool true ∧ Grow w w') := by
  apply enter5
  apply R_in
  simp (maxSteps := 1000000) (disch := omega) only [↓sy1, sy2, sy3, readOK, sy5, sy6, Nat.reduceEqDiff, ↓reduceIte, sy7, sy8, sy9, sya, oneOf, syb, syc, Nat.reduceAdd, Nat.reduceMul, syd, sye, syf, syg, syh, reduceCtorEq, F5]
  refine call0 (copen_spec G00 (size := 5) (most := 1) 2 3 7 8 (by omega) (by omega) (by omega) (by omega) (by omega) (by omega) (by omega) (by omega) (by omega)) ?_
  rintro _ w1 ⟨p, r, lq, rq, G1, rfl, hp1, hr1, hc1, _, _, _, _, hx1⟩
  have hc1 : CacheAt G1 2 7 w1 p lq 0 lc0 := hc1
  simp (maxSteps := 1000000) (disch := omega) only [↓sy1, sy2, sy3, readOK, sy5, sy6, Nat.reduceEqDiff, ↓reduceIte, sy7, sy8, sy9, sya, oneOf, syb, syc, Nat.reduceAdd, Nat.reduceMul, syd, sye, syf, syg, syh, reduceCtorEq]
  refine call0 (cread_spec hc1 (n := 0) (by rw [lc0_N]; omega)) ?_
  rintro _ w2 ⟨u2, G2, rfl, _, hc2, hx2⟩
  simp (maxSteps := 1000000) (disch := omega) only [↓sy1, sy2, sy3, readOK, sy5, sy6, Nat.reduceEqDiff, ↓reduceIte, sy7, sy8, sy9, sya, oneOf, syb, syc, Nat.reduceAdd, Nat.reduceMul, syd, sye, syf, syg, syh, reduceCtorEq]
  refine call0 (cread_spec hc2 (n := 1) (by rw [Csh.read_N, lc0_N]; omega)) ?_
  rintro _ w3 ⟨u3, G3, rfl, _, hc3, hx3⟩
  have hc3 : CacheAt G3 2 7 w3 p lq 0 lc2 := hc3
  simp (maxSteps := 1000000) (disch := omega) only [↓sy1, sy2, sy3, readOK, sy5, sy6, Nat.reduceEqDiff, ↓reduceIte, sy7, sy8, sy9, sya, oneOf, syb, syc, Nat.reduceAdd, Nat.reduceMul, syd, sye, syf, syg, syh, reduceCtorEq]
  refine call0 (ccached_spec hc3) ?_
  rintro cv w4 ⟨hcv, hg4⟩
  rw [lc2_row] at hcv
  have hx4 : Ext0 G3 w3 (G3.new w3.heap.size) w4 := .newB hg4
  have hc4 := hc3.ext hx4 id id id
  have hcl : ∀ w', lenF w' 0 cv = some (.int .i64 1) := fun w' => by rw [Has.lenI (Has.own hcv)]; rfl
  obtain ⟨a4, ha4, hac4, hab4⟩ := Has.getI (l := zs [1]) (Has.own hcv) (i := 0) (by simp [zs])
  have ha4' : iaF 1 cv (.int .i64 0) = some (.pointer (some a4)) := ha4
  have hac4' : w4.cell? a4 = some (.int .i64 1) := hac4
  simp (maxSteps := 1000000) (disch := omega) only [↓sy1, sy2, sy3, readOK, sy5, sy6, Nat.reduceEqDiff, ↓reduceIte, sy7, sy8, sy9, sya, oneOf, syb, syc, Nat.reduceAdd, Nat.reduceMul, syd, sye, syf, syg, syh, reduceCtorEq, fill_one]
  refine call0 (d4bytes_spec live4) ?_
  rintro bv w5 ⟨hbv, hg5⟩
  simp (maxSteps := 1000000) (disch := omega) only [↓sy1, sy2, sy3, readOK, sy5, sy6, Nat.reduceEqDiff, ↓reduceIte, sy7, sy8, sy9, sya, oneOf, syb, syc, Nat.reduceAdd, Nat.reduceMul, syd, sye, syf, syg, syh, reduceCtorEq]
  have hl5 : live4.data.length = 512 := live4.data_length
  refine call0 (cwrite_spec (hc4.grow hg5) (n := 2) (Has.own hbv) (by omega)) ?_
  rintro _ w6 ⟨rfl, G6, hc6, hx6⟩
  have hwc : lc2.wcode 2 live4.data.length = 0 := lc2_code
  rw [hwc, if_pos rfl] at hc6
  rw [hwc]
  have hc6 : CacheAt G6 2 7 w6 p lq 0 lc3 := hc6
  simp (maxSteps := 1000000) (disch := omega) only [↓sy1, sy2, sy3, readOK, sy5, sy6, Nat.reduceEqDiff, ↓reduceIte, sy7, sy8, sy9, sya, oneOf, syb, syc, Nat.reduceAdd, Nat.reduceMul, syd, sye, syf, syg, syh, reduceCtorEq]
  refine call0 (ccommit_spec hc6 (by show 0 < 700000; omega)) ?_
  rintro _ w7 ⟨rfl, G7, hc7, hx7⟩
  simp (maxSteps := 1000000) (disch := omega) only [↓sy1, sy2, sy3, readOK, sy5, sy6, Nat.reduceEqDiff, ↓reduceIte, sy7, sy8, sy9, sya, oneOf, syb, syc, Nat.reduceAdd, Nat.reduceMul, syd, sye, syf, syg, syh, reduceCtorEq]
  refine call0 (cread_spec hc7 (n := 2) (by rw [Csh.commit_N, lc3, Csh.write_N, lc2_N]; omega)) ?_
  rintro _ w8 ⟨u8, G8, rfl, hu8, hc8, hx8⟩
  rw [lc3_commit_page hc6.1] at hu8
  have hul : ∀ w', lenF w' 0 u8 = some (.int .i64 512) := fun w' => by rw [Has.lenB (Has.own hu8), hl5]; rfl
  obtain ⟨a8, ha8, hac8, _⟩ := Has.getB (Has.own hu8) (i := 9) (by omega)
  have hz : live4.data[9]'(by omega) = 3 := by
    unfold Deed4.data; rw [List.getElem_replicate]; rfl
  rw [hz] at hac8
  have ha8' : iaF 1 u8 (.int .i64 9) = some (.pointer (some a8)) := ha8
  have hac8' : w8.cell? a8 = some (.int .u8 3) := hac8
  have hk48 := (((Ext.grow hg5).trans hx6).mono (κ' := fun x => x = 2 ∨ x = 7) (fun _ h => .inr h)).trans (hx7.trans (hx8.mono (fun _ h => .inr h)))
  have hac4c : w8.cell? a4 = some (.int .i64 1) := hk48.keep.cell hac4' (fun hh => ?_)
  rotate_left
  · have := (World.ownsRow.lt hcv a4.block hab4).1
    rw [Gh.new_own this] at hh; omega
  simp (maxSteps := 1000000) (disch := omega) only [↓sy1, sy2, sy3, readOK, sy5, sy6, Nat.reduceEqDiff, ↓reduceIte, sy7, sy8, sy9, sya, oneOf, syb, syc, Nat.reduceAdd, Nat.reduceMul, syd, sye, syf, syg, syh, reduceCtorEq, hcl, ha4', hac4c, hul, ha8', hac8', decide_true]
  refine call0 (room_spec hc8) ?_
  rintro _ w9 ⟨rfl, hg9⟩
  have hroom : (((lc3.commit.read 2).cap : Int) - (lc3.commit.read 2).dirty.length) = 5 := by
    rw [Csh.read_dirty, Csh.dirty_commit]
    have : (lc3.commit.read 2).cap = 5 := by unfold Csh.cap; rw [Csh.read_size]; rfl
    rw [this]; rfl
  rw [hroom]
  simp (maxSteps := 1000000) (disch := omega) only [↓sy1, sy2, sy3, readOK, sy5, sy6, Nat.reduceEqDiff, ↓reduceIte, sy7, sy8, sy9, sya, oneOf, syb, syc, Nat.reduceAdd, Nat.reduceMul, syd, sye, syf, syg, syh, reduceCtorEq, decide_true]
  have hxa := (((hx1.trans (Ext.grow (Keep.refl _ _))).mono (κ' := fun x => x = 2 ∨ x = 7) (fun _ h => h.elim)).trans ((hx2.trans hx3).mono (fun _ h => .inr h))).trans ((hx4.mono (fun _ h => h.elim)).trans (hk48.trans (.grow hg9)))
  exact R_out (hxa.toGrow (by omega))
end Go.Proofs.YtgmodahpcpepjaaGreat

/- What a head says, in plain words; a head of any bytes is read; a log is opened over any disk. -/
namespace Go.Proofs.YtgmodahpcpepjaaGreat
open Go
set_option linter.unusedSimpArgs false
open Go.RowKit (intOf)
def twoB (b : List UInt8) (i : Nat) : Nat := (b.getD i 0).toNat * 256 + (b.getD (i + 1) 0).toNat
theorem twoB_lt (b : List UInt8) (i : Nat) : twoB b i < 65536 := by
  have h1 := (b.getD i 0).toNat_lt
  have h2 := (b.getD (i + 1) 0).toNat_lt
  unfold twoB; omega
theorem twoB_zero (b : List UInt8) (k : Nat) : twoB (b.drop k) 0 = twoB b k := by
  simp [twoB, List.getElem?_drop]
theorem twoB_cons (x y : UInt8) (l : List UInt8) : twoB (x :: y :: l) 0 = x.toNat * 256 + y.toNat := rfl
theorem twoB_get {l : List UInt8} (h : 2 ≤ l.length) : l[0].toNat * 256 + l[1].toNat = twoB l 0 := by
  match l, h with
  | x :: y :: l, _ => rfl
def numsOf (b : List UInt8) (n : Nat) : List Nat := (List.range n).map fun i => twoB b (4 + 2 * i)
theorem numsOf_length (b : List UInt8) (n : Nat) : (numsOf b n).length = n := by simp [numsOf]
theorem numsOf_succ (b : List UInt8) (i : Nat) : numsOf b (i + 1) = numsOf b i ++ [twoB b (4 + 2 * i)] := by simp [numsOf, List.range_succ]
theorem numsOf_take (b : List UInt8) {n i : Nat} (h : i ≤ n) : (numsOf b n).take i = numsOf b i := by simp [numsOf, ← List.map_take, List.take_range, Nat.min_eq_left h]
def goodN (pages : Nat) (l : List Nat) : Prop := l.Pairwise (· < ·) ∧ ∀ p ∈ l, p < pages
instance (pages : Nat) (l : List Nat) : Decidable (goodN pages l) := by unfold goodN; infer_instance
def lastI (l : List Nat) : Int := match l.getLast? with | some x => (x : Int) | none => -1
theorem lastI_snoc (l : List Nat) (p : Nat) : lastI (l ++ [p]) = p := by simp [lastI]
theorem goodN_nil (pages : Nat) : goodN pages [] := ⟨List.Pairwise.nil, fun _ h => by simp at h⟩
theorem goodN_take {pages : Nat} {l : List Nat} (h : goodN pages l) (i : Nat) : goodN pages (l.take i) := ⟨h.1.sublist (List.take_sublist ..), fun p hp => h.2 p (List.mem_of_mem_take hp)⟩
theorem goodN_snoc {pages : Nat} {l : List Nat} {p : Nat} : goodN pages (l ++ [p]) ↔ goodN pages l ∧ lastI l < p ∧ p < pages := by
  constructor
  · rintro ⟨h1, h2⟩
    rw [List.pairwise_append] at h1
    refine ⟨⟨h1.1, fun q hq => h2 q (by simp [hq])⟩, ?_, h2 p (by simp)⟩
    unfold lastI
    split
    · rename_i x hx
      have := h1.2.2 x (List.mem_of_getLast? hx) p (by simp); omega
    · omega
  · rintro ⟨⟨h1, h2⟩, h3, h4⟩
    refine ⟨List.pairwise_append.2 ⟨h1, by simp, fun a ha c hc => ?_⟩, fun q hq => ?_⟩
    · simp at hc; subst hc
      obtain ⟨i, hi, rfl⟩ := List.getElem_of_mem ha
      have hne : l ≠ [] := fun h => by simp [h] at hi
      unfold lastI at h3
      rw [List.getLast?_eq_some_getLast hne] at h3
      simp only [List.getLast_eq_getElem] at h3
      by_cases hl : i = l.length - 1
      · subst hl; omega
      · have := List.pairwise_iff_getElem.1 h1 i (l.length - 1) hi (by omega) (by omega); omega
    · rcases List.mem_append.1 hq with hq | hq
      · exact h2 q hq
      · simp at hq; omega
open Classical in
/-- The numbers that a head has; none: it is no head. -/
noncomputable def headOf (cap pages : Nat) (b : List UInt8) : Option (List Nat) :=
  if ∀ x ∈ b, x = 0 then some []
  else if b.getD 0 0 = 0x44 ∧ b.getD 1 0 = 0x4e ∧ twoB b 2 ≤ cap ∧ (∀ x ∈ b.drop (4 + 2 * twoB b 2), x = 0) ∧ goodN pages (numsOf b (twoB b 2)) then some (numsOf b (twoB b 2)) else none
theorem headOf_zsec (cap pages : Nat) : headOf cap pages zsec = some [] := by
  have h : ∀ x ∈ zsec, x = 0 := fun x hx => (List.mem_replicate.1 hx).2
  rw [headOf, if_pos h]
theorem headOf_good {cap pages : Nat} {b : List UInt8} {ns : List Nat} (h : headOf cap pages b = some ns) : goodN pages ns ∧ ns.length ≤ cap := by
  unfold headOf at h
  split at h
  · cases h; exact ⟨goodN_nil _, Nat.zero_le _⟩
  · split at h
    · rename_i hc; cases h; exact ⟨hc.2.2.2.2, by rw [numsOf_length]; exact hc.2.2.1⟩
    · cases h
theorem headOf_headB {cap pages : Nat} {ns : List Nat} (hc : cap ≤ 100) (hl : ns.length ≤ cap) (hp : pages ≤ 65536) (hg : goodN pages ns) : headOf cap pages (headB ns) = some ns := by
  have h2 : twoB (headB ns) 2 = ns.length := by
    obtain ⟨r, hr⟩ := headB_two ns
    rw [← twoB_zero, hr, twoB_cons, hi_lo (by omega)]
  have hn : numsOf (headB ns) ns.length = ns := by
    refine List.ext_getElem (numsOf_length _ _) fun i h1 h2 => ?_
    simp only [numsOf, List.getElem_map, List.getElem_range]
    obtain ⟨r, hr⟩ := headB_at ns h2
    rw [← twoB_zero, hr, twoB_cons, hi_lo (by have := hg.2 _ (List.getElem_mem h2); omega)]
  rw [headOf, if_neg (fun h => absurd (h 0x44 (by simp [headB])) (by decide)), h2, hn, if_pos ⟨rfl, rfl, hl, by rw [headB_tail]; exact fun x hx => (List.mem_replicate.1 hx).2, hg⟩]
theorem u8_68 {b : UInt8} (h : (b.toNat : Int) = 68) : b = 0x44 := UInt8.toNat_inj.1 (by have h2 : b.toNat = 68 := by omega
                                                                                         rw [h2]; rfl)
theorem u8_78 {b : UInt8} (h : (b.toNat : Int) = 78) : b = 0x4e := UInt8.toNat_inj.1 (by have h2 : b.toNat = 78 := by omega
                                                                                         rw [h2]; rfl)
noncomputable def Dsk.head (size : Nat) (D : Dsk) : Option (List Nat) := headOf (min size 100) (D.first.length - size - 1) (D.image.getD 0 [])
theorem Dsk.image0 {D : Dsk} (h : D.Ok) : D.image.getD 0 [] = D.image[0]'(by rw [D.image_length]; exact h.some) := by
  rw [List.getD_eq_getElem?_getD, List.getElem?_eq_getElem]; rfl
/-- What head answers. -/
def HeadRes (B : Nat) (o : Option (List Nat)) (v : Value) (w' : World) : Prop := match o with
  | some ns => ∃ u, v = .tuple #[u, .bool true] ∧ w'.ownsRow B 3 1 u ns.length (ints (zs ns))
  | none => v = .tuple #[.slice none 0 0, .bool false]
set_option maxHeartbeats 1000000 in
theorem headg_spec {G : Gh} {κ : Nat} {w : World} {q size came : Nat} {D : Dsk} (h : LogAt G κ w q size came D) :
    Calls Tryz.prog 52 #[.pointer (some ⟨q, 0, none⟩)] w (Ret fun v w' => HeadRes w.heap.size (D.head size) v w' ∧ Grow w w') := by
  obtain ⟨p, hd, hc⟩ := h.cells
  have hs2 := h.2.2.1
  have hmost := hd.ok.most
  have hb512 : (D.image.getD 0 []).length = 512 := by rw [Dsk.image0 hd.ok]; exact hd.ok.image _ (List.getElem_mem _)
  unfold Dsk.head
  generalize hbb : D.image.getD 0 [] = bb at hb512 ⊢
  rw [Dsk.image0 hd.ok] at hbb
  apply enter52
  apply R_in
  simp (maxSteps := 600000) (disch := omega) only [F52, ↓sy1, sy2, sy3, readOK, sy5, sy6, Nat.reduceEqDiff, ↓reduceIte, sy7, sy8, sy9, sya, oneOf, syb, syc, Nat.reduceAdd, Nat.reduceMul, syd, sye, syf, syg, syh, reduceCtorEq, hc (Keep.refl _ _)]
  refine call0 (read_spec hd (n := 0) (by omega)) ?_
  rintro _ w1 ⟨b, rfl, hb, hg1⟩
  rw [hbb] at hb
  have hB := Has.own hb
  simp (maxSteps := 600000) (disch := omega) only [↓sy1, sy2, sy3, readOK, sy5, sy6, Nat.reduceEqDiff, ↓reduceIte, sy7, sy8, sy9, sya, oneOf, syb, syc, Nat.reduceAdd, Nat.reduceMul, syd, sye, syf, syg, syh, reduceCtorEq]
  refine call0 (zeros_spec hB (by omega)) ?_
  rintro v w2 ⟨⟨hall, rfl⟩ | ⟨hno, rfl⟩, rfl⟩
  · simp (maxSteps := 600000) (disch := omega) only [↓sy1, sy2, sy3, readOK, sy5, sy6, Nat.reduceEqDiff, ↓reduceIte, sy7, sy8, sy9, sya, oneOf, syb, syc, Nat.reduceAdd, Nat.reduceMul, syd, sye, syf, syg, syh, reduceCtorEq]
    refine R_out ?_
    rw [headOf, if_pos hall]
    exact ⟨⟨_, rfl, World.ownsRow_nil _ _ _ _⟩, hg1⟩
  obtain ⟨v2, hv2, hH2⟩ := hB.slcFrom (m := 2) (by rw [bs_length]; omega)
  rw [bs_drop] at hH2
  have hv2' : slcF 1 b (some (.int .i64 2)) none none = some v2 := hv2
  simp (maxSteps := 600000) (disch := omega) only [↓sy1, sy2, sy3, readOK, sy5, sy6, Nat.reduceEqDiff, ↓reduceIte, sy7, sy8, sy9, sya, oneOf, syb, syc, Nat.reduceAdd, Nat.reduceMul, syd, sye, syf, syg, syh, reduceCtorEq, hv2']
  refine call0 (two_spec hH2 (by rw [List.length_drop]; omega)) ?_
  rintro _ w3 ⟨rfl, hg3⟩
  rw [twoB_get (by rw [List.length_drop]; omega), twoB_zero]
  have hB3 := hB.grow hg3
  obtain ⟨a0, ha0, hac0, _⟩ := hB3.getB (i := 0) (by omega)
  obtain ⟨a1, ha1, hac1, _⟩ := hB3.getB (i := 1) (by omega)
  have hb0 : bb[0] = bb.getD 0 0 := by rw [List.getD_eq_getElem?_getD, List.getElem?_eq_getElem]; rfl
  have hb1 : bb[1] = bb.getD 1 0 := by rw [List.getD_eq_getElem?_getD, List.getElem?_eq_getElem]; rfl
  rw [hb0] at hac0
  rw [hb1] at hac1
  have ha0' : iaF 1 b (.int .i64 0) = some (.pointer (some a0)) := ha0
  have ha1' : iaF 1 b (.int .i64 1) = some (.pointer (some a1)) := ha1
  have hbad : ∀ {w' : World}, Grow w w' → ¬ (bb.getD 0 0 = 0x44 ∧ bb.getD 1 0 = 0x4e ∧ twoB bb 2 ≤ min size 100 ∧ (∀ x ∈ bb.drop (4 + 2 * twoB bb 2), x = 0) ∧ goodN (D.first.length - size - 1) (numsOf bb (twoB bb 2))) →
      R (HeadRes w.heap.size (headOf (min size 100) (D.first.length - size - 1) bb) (.tuple #[.slice none 0 0, .bool false]) w' ∧ Grow w w') := fun {w'} hg hn => by
    refine R_out ?_
    rw [headOf, if_neg hno, if_neg hn]
    exact ⟨rfl, hg⟩
  have hn2 := twoB_lt bb 2
  generalize hn : twoB bb 2 = n at hn2 hbad ⊢
  by_cases c0 : bb.getD 0 0 = 0x44
  rotate_left
  · have c0' : ¬ (((bb.getD 0 0).toNat : Int) = 68) := fun hc => c0 (u8_68 hc)
    simp (maxSteps := 600000) (disch := omega) only [↓sy1, sy2, sy3, readOK, sy5, sy6, Nat.reduceEqDiff, ↓reduceIte, sy7, sy8, sy9, sya, oneOf, syb, syc, Nat.reduceAdd, Nat.reduceMul, syd, sye, syf, syg, syh, reduceCtorEq, ha0', hac0, c0', decide_false]
    exact hbad (hg1.trans hg3) (fun hc => c0 hc.1)
  have c0' : (((bb.getD 0 0).toNat : Int) = 68) = True := by rw [c0]; simp
  by_cases c1 : bb.getD 1 0 = 0x4e
  rotate_left
  · have c1' : ¬ (((bb.getD 1 0).toNat : Int) = 78) := fun hc => c1 (u8_78 hc)
    simp (maxSteps := 600000) (disch := omega) only [↓sy1, sy2, sy3, readOK, sy5, sy6, Nat.reduceEqDiff, ↓reduceIte, sy7, sy8, sy9, sya, oneOf, syb, syc, Nat.reduceAdd, Nat.reduceMul, syd, sye, syf, syg, syh, reduceCtorEq, ha0', hac0, c0', ha1', hac1, c1', decide_false, decide_true]
    exact hbad (hg1.trans hg3) (fun hc => c1 hc.2.1)
  have c1' : (((bb.getD 1 0).toNat : Int) = 78) = True := by rw [c1]; simp
  simp (maxSteps := 600000) (disch := omega) only [↓sy1, sy2, sy3, readOK, sy5, sy6, Nat.reduceEqDiff, ↓reduceIte, sy7, sy8, sy9, sya, oneOf, syb, syc, Nat.reduceAdd, Nat.reduceMul, syd, sye, syf, syg, syh, reduceCtorEq, ha0', hac0, c0', ha1', hac1, c1', decide_true]
  refine call0 (capacity_spec (h.grow (hg1.trans hg3))) ?_
  rintro _ w4 ⟨rfl, rfl⟩
  by_cases c2 : n ≤ min size 100
  rotate_left
  · have c2' : ((min size 100 : Nat) : Int) < (n : Int) := by omega
    simp (maxSteps := 600000) (disch := omega) only [↓sy1, sy2, sy3, readOK, sy5, sy6, Nat.reduceEqDiff, ↓reduceIte, sy7, sy8, sy9, sya, oneOf, syb, syc, Nat.reduceAdd, Nat.reduceMul, syd, sye, syf, syg, syh, reduceCtorEq, c2', decide_true]
    exact hbad (hg1.trans hg3) (fun hc => c2 hc.2.2.1)
  obtain ⟨v5, hv5, hH5⟩ := hB3.slcFrom (m := 4 + 2 * n) (by rw [bs_length]; omega)
  rw [bs_drop] at hH5
  have hcast5 : (4 : Int) + 2 * (n : Int) = ((4 + 2 * n : Nat) : Int) := by omega
  have hng : ¬ (((min size 100 : Nat) : Int) < (n : Int)) := by omega
  simp (maxSteps := 600000) (disch := omega) only [↓sy1, sy2, sy3, readOK, sy5, sy6, Nat.reduceEqDiff, ↓reduceIte, sy7, sy8, sy9, sya, oneOf, syb, syc, Nat.reduceAdd, Nat.reduceMul, syd, sye, syf, syg, syh, reduceCtorEq, hng, decide_false, hcast5, hv5]
  refine call0 (zeros_spec hH5 (by simp; omega)) ?_
  rintro v w5 ⟨⟨c3, rfl⟩ | ⟨c3, rfl⟩, rfl⟩
  rotate_left
  · simp (maxSteps := 600000) (disch := omega) only [↓sy1, sy2, sy3, readOK, sy5, sy6, Nat.reduceEqDiff, ↓reduceIte, sy7, sy8, sy9, sya, oneOf, syb, syc, Nat.reduceAdd, Nat.reduceMul, syd, sye, syf, syg, syh, reduceCtorEq]
    exact hbad (hg1.trans hg3) (fun hc => c3 hc.2.2.2.1)
  simp (maxSteps := 600000) (disch := omega) only [↓sy1, sy2, sy3, readOK, sy5, sy6, Nat.reduceEqDiff, ↓reduceIte, sy7, sy8, sy9, sya, oneOf, syb, syc, Nat.reduceAdd, Nat.reduceMul, syd, sye, syf, syg, syh, reduceCtorEq]
  have hb5 := own_grow hb hg3
  have hg15 := hg1.trans hg3
  refine loop_rule (fun e w' => ∃ (i : Nat) (out : Value), i ≤ n ∧ e 51 = .int .i64 i ∧ e 50 = .int .i64 n ∧ e 4 = b ∧ e 0 = .pointer (some ⟨q, 0, none⟩) ∧ e 7 = .int .i64 (lastI (numsOf bb i)) ∧ e 8 = out ∧ goodN (D.first.length - size - 1) (numsOf bb i) ∧
      w'.ownsRow w.heap.size 3 1 out i (ints (zs (numsOf bb i))) ∧ w'.ownsRow w.heap.size 5 1 b 512 (bs bb) ∧ Grow w w') (fun e _ => n - (intOf (e 51)).toNat)
    ⟨0, .slice none 0 0, by omega, by simp [upd, updO, ev], by simp [upd, updO, ev], by simp [upd, updO, ev], by simp [upd, updO, ev], by simp [upd, updO, ev, lastI, numsOf], by simp [upd, updO, ev], goodN_nil _, World.ownsRow_nil w5 _ _ _, by rw [← hb512]; rw [← hb512] at hb5; exact hb5, hg15⟩ ?_
  rintro e w6 ⟨i, out, hi', e51, e50, e4, e0, e7, e8, hgd, hown, hb6, hg6⟩
  have hB6 := Has.own hb6
  by_cases hlt : i < n
  · obtain ⟨v7, hv7, hH7⟩ := hB6.slcFrom (m := 4 + 2 * i) (by rw [bs_length]; omega)
    rw [bs_drop] at hH7
    have hcast7 : (4 : Int) + 2 * (i : Int) = ((4 + 2 * i : Nat) : Int) := by omega
    have hsn := goodN_snoc (pages := D.first.length - size - 1) (l := numsOf bb i) (p := twoB bb (4 + 2 * i))
    rw [← numsOf_succ] at hsn
    have hup : goodN (D.first.length - size - 1) (numsOf bb n) → goodN (D.first.length - size - 1) (numsOf bb (i + 1)) := fun hg => by
      rw [← numsOf_take bb (show i + 1 ≤ n from hlt)]; exact goodN_take hg _
    have h7 := twoB_lt bb (4 + 2 * i)
    have hsucc := numsOf_succ bb i
    simp (maxSteps := 600000) (disch := omega) only [F52_L0, ↓sy1, sy2, sy3, readOK, sy5, sy6, Nat.reduceEqDiff, ↓reduceIte, sy7, sy8, sy9, sya, oneOf, syb, syc, Nat.reduceAdd, Nat.reduceMul, syd, sye, syf, syg, syh, reduceCtorEq, e51, e50, e4, e0, e7, e8, Int.ofNat_lt, hlt, decide_true, hcast7, hv7]
    refine call0 (two_spec hH7 (by rw [List.length_drop]; omega)) ?_
    rintro _ w7 ⟨rfl, hg7⟩
    rw [twoB_get (by rw [List.length_drop]; omega), twoB_zero]
    generalize twoB bb (4 + 2 * i) = p7 at h7 hsucc hsn ⊢
    by_cases hlast : (p7 : Int) ≤ lastI (numsOf bb i)
    · simp (maxSteps := 600000) (disch := omega) only [↓sy1, sy2, sy3, readOK, sy5, sy6, Nat.reduceEqDiff, ↓reduceIte, sy7, sy8, sy9, sya, oneOf, syb, syc, Nat.reduceAdd, Nat.reduceMul, syd, sye, syf, syg, syh, reduceCtorEq, e51, e50, e4, e0, e7, e8, hlast, decide_true]
      exact hbad (hg6.trans hg7) (fun hc => by have := (hsn.1 (hup hc.2.2.2.2)).2.1; omega)
    simp (maxSteps := 600000) (disch := omega) only [↓sy1, sy2, sy3, readOK, sy5, sy6, Nat.reduceEqDiff, ↓reduceIte, sy7, sy8, sy9, sya, oneOf, syb, syc, Nat.reduceAdd, Nat.reduceMul, syd, sye, syf, syg, syh, reduceCtorEq, e51, e50, e4, e0, e7, e8, hlast, decide_false]
    refine call0 (pages_spec (h.grow (hg6.trans hg7))) ?_
    rintro _ w8 ⟨rfl, hg8⟩
    by_cases hpp : ((D.first.length - size - 1 : Nat) : Int) ≤ (p7 : Int)
    · simp (maxSteps := 600000) (disch := omega) only [↓sy1, sy2, sy3, readOK, sy5, sy6, Nat.reduceEqDiff, ↓reduceIte, sy7, sy8, sy9, sya, oneOf, syb, syc, Nat.reduceAdd, Nat.reduceMul, syd, sye, syf, syg, syh, reduceCtorEq, e51, e50, e4, e0, e7, e8, hpp, decide_true]
      exact hbad ((hg6.trans hg7).trans hg8) (fun hc => by have := (hsn.1 (hup hc.2.2.2.2)).2.2; omega)
    simp (maxSteps := 600000) (disch := omega) only [↓sy1, sy2, sy3, readOK, sy5, sy6, Nat.reduceEqDiff, ↓reduceIte, sy7, sy8, sy9, sya, oneOf, syb, syc, Nat.reduceAdd, Nat.reduceMul, syd, sye, syf, syg, syh, reduceCtorEq, e51, e50, e4, e0, e7, e8, hpp, decide_false]
    have hown8 := own_grow hown (hg7.trans hg8)
    have hga : Grow w8 (w8.alloc (.cells #[.int .i64 (p7 : Int)] 3)) := (Keep.refl _ _).alloc _
    refine app_own elemI (by simp only [upd_at, Nat.reduceEqDiff, reduceIte, ev_tmp, ev_const, List.map_cons, List.map_nil, e8]) (by simp only [upd_at, Nat.reduceEqDiff, reduceIte, ev_tmp, ev_const, List.map_cons, List.map_nil]) (own_grow hown8 hga) Has.new1 (m := 1) rfl (by simp [isCell]) (by omega) (by omega) (by have := ((hg6.trans hg7).trans hg8).size; simp; omega) ?_
    intro out' w9 ho9 hg9
    simp (maxSteps := 600000) (disch := omega) only [↓sy1, sy2, sy3, readOK, sy5, sy6, Nat.reduceEqDiff, ↓reduceIte, sy7, sy8, sy9, sya, oneOf, syb, syc, Nat.reduceAdd, Nat.reduceMul, syd, sye, syf, syg, syh, reduceCtorEq, e51, e50, e4, e0]
    have hgw : Grow w w9 := (((hg6.trans hg7).trans hg8).trans hga).then (Keep.grown hg9) (fun bb hbb hs => by
      obtain ⟨hbl, _⟩ := World.ownsRow.lt hown8 bb hs.symm; omega)
    have hb8 := own_grow hb6 (hg7.trans hg8)
    have hk9 := (Keep.refl (fun bb => some bb = out.ownBlock) w8).trans (((Keep.refl _ _).alloc (.cells #[.int .i64 (p7 : Int)] 3)).trans (Keep.grown hg9))
    have hb9 := own_keep hb8 hk9 (fun bb hbb hs => own_ne hown8 hb8 (by decide) hs.symm hbb)
    refine R_out ⟨⟨i + 1, out', by omega, rfl, ?_, rfl, hsn.2 ⟨hgd, by omega, by omega⟩, ?_, hb9, hgw⟩, ?_⟩
    · rw [hsucc, lastI_snoc]
    · have hts : ints (zs (numsOf bb (i + 1))) = ints (zs (numsOf bb i)) ++ [.int .i64 (p7 : Int)] := by
        rw [hsucc, zs, List.map_append, ints, List.map_append]; rfl
      rw [hts]; exact ho9
    · simp only [intOf]; omega
  · have hie : i = n := by omega
    subst hie
    simp (maxSteps := 600000) (disch := omega) only [F52_L0, ↓sy1, sy2, sy3, readOK, sy5, sy6, Nat.reduceEqDiff, ↓reduceIte, sy7, sy8, sy9, sya, oneOf, syb, syc, Nat.reduceAdd, Nat.reduceMul, syd, sye, syf, syg, syh, reduceCtorEq, e51, e50, e4, e0, e7, e8, Int.ofNat_lt, hlt, decide_false]
    refine R_out ?_
    rw [headOf, if_neg hno, hn, if_pos ⟨c0, c1, c2, c3, hgd⟩]
    rw [← numsOf_length bb i] at hown
    exact ⟨⟨out, rfl, by simpa [numsOf_length] using hown⟩, hg6⟩
end Go.Proofs.YtgmodahpcpepjaaGreat

/- A log is opened over any disk. -/
namespace Go.Proofs.YtgmodahpcpepjaaGreat
open Go
set_option linter.unusedSimpArgs false
open Go.RowKit (intOf)
/-- The copies of a head's pages. -/
def pairsOf (D : Dsk) (ns : List Nat) : List (Nat × List UInt8) := ns.zipIdx.map fun p => (p.1, D.image.getD (1 + p.2) [])
theorem pairsOf_length (D : Dsk) (ns : List Nat) : (pairsOf D ns).length = ns.length := by simp [pairsOf]
theorem pairsOf_get (D : Dsk) (ns : List Nat) {i : Nat} (h : i < (pairsOf D ns).length) : (pairsOf D ns)[i] = (ns[i]'(by rw [pairsOf_length] at h; exact h), D.image.getD (1 + i) []) := by
  simp [pairsOf]
theorem pairsOf_fst (D : Dsk) (ns : List Nat) : (pairsOf D ns).map (·.1) = ns := by
  refine List.ext_getElem (by simp [pairsOf]) fun i h1 h2 => ?_
  rw [List.getElem_map, pairsOf_get]
/-- The disk of a log that is opened, and how many pages came; none: it is broken. -/
noncomputable def opened (size : Nat) (D : Dsk) : Option (Dsk × Nat) := (D.head size).map fun ns => (if ns = [] then D else homed size D (pairsOf D ns), ns.length)
theorem opened_none {size : Nat} {D : Dsk} (h : D.head size = none) : opened size D = none := by simp [opened, h]
theorem opened_nil {size : Nat} {D : Dsk} (h : D.head size = some []) : opened size D = some (D, 0) := by simp [opened, h]
theorem opened_some {size : Nat} {D : Dsk} {ns : List Nat} (h : D.head size = some ns) (hn : ns ≠ []) : opened size D = some (homed size D (pairsOf D ns), ns.length) := by simp [opened, h, hn]
theorem pairsOf_ok {size : Nat} {D : Dsk} {ns : List Nat} (hok : D.Ok) (h : D.head size = some ns) (h2 : size + 2 ≤ D.first.length) :
    (pairsOf D ns).length ≤ size ∧ (∀ p ∈ pairsOf D ns, p.2.length = 512 ∧ size + 1 + p.1 < D.first.length) ∧ ∀ i (h : i < (pairsOf D ns).length), D.image[1 + i]? = some (pairsOf D ns)[i].2 := by
  obtain ⟨⟨hr, hp⟩, hl⟩ := headOf_good h
  have hlen := pairsOf_length D ns
  have himg : ∀ i, i < ns.length → D.image[1 + i]? = some (D.image.getD (1 + i) []) := fun i hi => by
    have : 1 + i < D.image.length := by rw [D.image_length]; omega
    rw [List.getD_eq_getElem?_getD, List.getElem?_eq_getElem this]; rfl
  refine ⟨by omega, fun p hpm => ?_, fun i hi => ?_⟩
  · obtain ⟨i, hi, rfl⟩ := List.getElem_of_mem hpm
    rw [pairsOf_get]
    rw [hlen] at hi
    have h3 := hp ns[i] (List.getElem_mem hi)
    have h4 := List.mem_of_getElem? (himg i hi)
    exact ⟨hok.image _ h4, by simp only; omega⟩
  · rw [pairsOf_get]
    exact himg i (by omega)
/-- What Open answers. -/
def OpenRes (G : Gh) (κ' : Nat) (w : World) (size : Nat) (o : Option (Dsk × Nat)) (v : Value) (w' : World) : Prop := match o with
  | some (E, came) => ∃ q G', v = .tuple #[.pointer (some ⟨q, 0, none⟩), .int .i64 0] ∧ w.heap.size ≤ q ∧ LogAt G' κ' w' q size came E ∧ Ext (fun c => c = κ') G w G' w'
  | none => v = .tuple #[.pointer none, .int .i64 9] ∧ Grow w w'
set_option maxHeartbeats 1000000 in
theorem openg_spec {G : Gh} {κ : Nat} {w : World} {p size : Nat} {D : Dsk} (κ' : Nat) (hκ : κ' ≠ 0) (h : DiskAt G κ w p D) (h1 : 1 ≤ size) (h2 : size + 2 ≤ D.first.length) (ho : D.ops.length < 700000) :
    Calls Tryz.prog 24 #[.pointer (some ⟨p, 0, none⟩), .int .i64 size] w (Ret fun v w' => OpenRes G κ' w size (opened size D) v w') := by
  have hmost := h.ok.most
  have hok := h.ok
  apply enter24
  apply R_in
  simp (maxSteps := 600000) (disch := omega) only [F24, ↓sy1, sy2, sy3, readOK, sy5, sy6, Nat.reduceEqDiff, ↓reduceIte, sy7, sy8, sy9, sya, oneOf, syb, syc, Nat.reduceAdd, Nat.reduceMul, syd, sye, syf, syg, syh, reduceCtorEq, show ¬ ((size : Int) < 1) from by omega, decide_false]
  refine call0 (sectors_spec h) ?_
  rintro _ w0 ⟨rfl, rfl⟩
  simp (maxSteps := 600000) (disch := omega) only [↓sy1, sy2, sy3, readOK, sy5, sy6, Nat.reduceEqDiff, ↓reduceIte, sy7, sy8, sy9, sya, oneOf, syb, syc, Nat.reduceAdd, Nat.reduceMul, syd, sye, syf, syg, syh, reduceCtorEq, show ¬ ((D.first.length : Int) - 2 < (size : Int)) from by omega, decide_false]
  refine call0 (fork_spec κ' h) ?_
  rintro _ w1 ⟨p', G1, rfl, hp1, hd1, hx1⟩
  have hcp : isCell (.pointer (some ⟨p', 0, none⟩)) = true := rfl
  have hg2 : Grow w1 (w1.alloc (.cells #[.pointer (some ⟨p', 0, none⟩), .int .i64 size, .int .i64 0] 82)) := (Keep.refl _ _).alloc _
  have hb2 := heap_alloc_new w1 (.cells #[.pointer (some ⟨p', 0, none⟩), .int .i64 size, .int .i64 0] 82)
  generalize hw2 : w1.alloc (.cells #[.pointer (some ⟨p', 0, none⟩), .int .i64 size, .int .i64 0] 82) = w2 at hg2 hb2
  simp (maxSteps := 600000) (disch := omega) only [↓sy1, sy2, sy3, readOK, sy5, sy6, Nat.reduceEqDiff, ↓reduceIte, sy7, sy8, sy9, sya, oneOf, syb, syc, Nat.reduceAdd, Nat.reduceMul, syd, sye, syf, syg, syh, reduceCtorEq, oneF_cell hcp, fill_gen, fillF_log (a := .pointer none) (b := .int .i64 0) (c := .int .i64 0) hcp (show isCell (.int .i64 (size : Int)) = true from rfl), agg3_cells hcp (show isCell (.int .i64 (size : Int)) = true from rfl) (show isCell (.int .i64 0) = true from rfl), hw2]
  have hq1 : w0.heap.size ≤ w1.heap.size := hx1.size
  have hx2 : Ext0 G1 w1 (G1.new w1.heap.size) w2 := .newB hg2
  have hno : ∀ b, w1.heap.size ≤ b → (G1.new w1.heap.size).own b = 0 ∧ (G1.new w1.heap.size).fix b = 0 := fun b hb => ⟨Gh.new_own hb, by simp [Gh.upto, Nat.not_lt.2 hb]⟩
  have hd2 := hd1.ext hx2 id
  have hlog : LogAt (G1.new w1.heap.size) κ' w2 w1.heap.size size 0 D := ⟨hκ, h1, h2, (hno _ (Nat.le_refl _)).1, p', hb2, hd2⟩
  refine call0 (headg_spec hlog) ?_
  rintro v w3 ⟨hv, hg3⟩
  have hg13 := hg2.trans hg3
  have hx13 : Ext0 G w0 (G1.new w1.heap.size) w3 := hx1.trans (.newB hg13)
  cases hh : D.head size with
  | none =>
    rw [hh] at hv
    obtain rfl := hv
    rw [opened_none hh]
    simp (maxSteps := 600000) (disch := omega) only [↓sy1, sy2, sy3, readOK, sy5, sy6, Nat.reduceEqDiff, ↓reduceIte, sy7, sy8, sy9, sya, oneOf, syb, syc, Nat.reduceAdd, Nat.reduceMul, syd, sye, syf, syg, syh, reduceCtorEq]
    exact R_out ⟨rfl, hx13.growG⟩
  | some ns =>
    rw [hh] at hv
    obtain ⟨u, rfl, hu⟩ := hv
    obtain ⟨k1, k2, k3⟩ := pairsOf_ok hok hh h2
    rw [pairsOf_length] at k1
    have hlu : ∀ w3, lenF w3 0 u = some (.int .i64 ns.length) := fun w3 => by rw [(Has.own hu).lenI]; simp
    have hb3 := hg3.gheap hb2
    obtain ⟨w4, hst, hb4, hk4⟩ := cell_store hb3 (i := 2) (by simp) (u := .int .i64 ns.length) rfl
    have hb4' : w4.heap[w1.heap.size]? = some (.cells #[.pointer (some ⟨p', 0, none⟩), .int .i64 size, .int .i64 ns.length] 82 (0, 0)) := by simpa using hb4
    have hc4 : w4.cell? ⟨w1.heap.size, 2, none⟩ = some (.int .i64 ns.length) := by rw [cell_block hb4']; rfl
    have hg14 : Grow w1 w4 := hg13.then hk4 (fun b hb h => by omega)
    have hx4 : Ext (fun c => c = 0) (G1.new w1.heap.size) w3 (G1.new w1.heap.size) w4 := .on0 hk4 (hno _ (Nat.le_refl _)).1 (hno _ (Nat.le_refl _)).2
    have hd4 := (hd2.grow hg3).ext hx4 hκ
    have hlog4 : LogAt (G1.new w1.heap.size) κ' w4 w1.heap.size size ns.length D := ⟨hκ, h1, h2, (hno _ (Nat.le_refl _)).1, p', hb4', hd4⟩
    have hxw : Ext0 G w0 (G1.new w1.heap.size) w4 := hx1.trans (.newB hg14)
    by_cases hne : ns = []
    · subst hne
      rw [opened_nil hh]
      have hlu0 : ∀ w3, lenF w3 0 u = some (.int .i64 0) := hlu
      have hst0 : stF w3 (.pointer (some ⟨w1.heap.size, 2, none⟩)) (.int .i64 0) = some (undef, w4) := hst
      have hc40 : w4.cell? ⟨w1.heap.size, 2, none⟩ = some (.int .i64 0) := hc4
      simp (maxSteps := 600000) (disch := omega) only [↓sy1, sy2, sy3, readOK, sy5, sy6, Nat.reduceEqDiff, ↓reduceIte, sy7, sy8, sy9, sya, oneOf, syb, syc, Nat.reduceAdd, Nat.reduceMul, syd, sye, syf, syg, syh, reduceCtorEq, hlu0, hst0, hc40, show ¬ ((0 : Int) < 0) from by omega, decide_false]
      exact R_out ⟨w1.heap.size, G1.new w1.heap.size, rfl, hq1, hlog4, hxw.mono (fun _ h => h.elim)⟩
    · rw [opened_some hh hne]
      have hpos : 0 < ns.length := List.length_pos_iff.2 hne
      simp (maxSteps := 600000) (disch := omega) only [↓sy1, sy2, sy3, readOK, sy5, sy6, Nat.reduceEqDiff, ↓reduceIte, sy7, sy8, sy9, sya, oneOf, syb, syc, Nat.reduceAdd, Nat.reduceMul, syd, sye, syf, syg, syh, reduceCtorEq, hlu, hst, hc4, show ((0 : Int) < (ns.length : Int)) from by omega, decide_true]
      have hug : HasI w4 u (zs ns) := (Has.own hu).keep hk4 (fun b hb _ hbq => by
        have hbl := (World.ownsRow.lt hu b hb).1
        have := (Array.getElem?_eq_some_iff.1 hb2).1
        omega)
      have hheld : Held (G1.new w1.heap.size) κ' w4 u (ints (zs ((pairsOf D ns).map (·.1)))) := by
        rw [pairsOf_fst]
        refine ⟨hug, fun b hb _ => ?_⟩
        obtain ⟨hbb, hbl⟩ := World.ownsRow.lt hu b hb
        exact ⟨Nat.lt_of_lt_of_le hbl hk4.size, by rw [(hno b (Nat.le_trans hg2.size hbb)).1]; exact fun h => hκ h.symm⟩
      refine call0 (home_spec hlog4 hheld (by rw [pairsOf_length]; exact k1) k2 k3 (by rw [pairsOf_length]; omega)) ?_
      rintro _ w5 ⟨G5, hlog5, hx5⟩
      simp (maxSteps := 600000) (disch := omega) only [↓sy1, sy2, sy3, readOK, sy5, sy6, Nat.reduceEqDiff, ↓reduceIte, sy7, sy8, sy9, sya, oneOf, syb, syc, Nat.reduceAdd, Nat.reduceMul, syd, sye, syf, syg, syh, reduceCtorEq]
      exact R_out ⟨w1.heap.size, G5, rfl, hq1, hlog5, (hxw.mono (fun _ h => h.elim)).trans hx5⟩
end Go.Proofs.YtgmodahpcpepjaaGreat

/- What a crash leaves of a log's disk, in plain words: behind it all pages are as ahead of the group, or as behind it. -/
namespace Go.Proofs.YtgmodahpcpepjaaGreat
open Go
abbrev Img := List (List UInt8)
/-- What an image tells when a log is opened over it. -/
def Tells (size : Nat) (img P : Img) : Prop := ∃ ns, headOf (min size 100) (img.length - size - 1) (img.getD 0 []) = some ns ∧ P.length = img.length - size - 1 ∧
  (∀ i (h : i < ns.length), P[ns[i]]? = img[1 + i]?) ∧ ∀ s, s < P.length → s ∉ ns → P[s]? = img[size + 1 + s]?
/-- An image, some writes done. -/
def After (W : List DOp) (s img : Img) : Prop := img.length = s.length ∧ ∀ i : Nat, img[i]? = s[i]? ∨ ∃ b, DOp.wr i b ∈ W ∧ img[i]? = some b
theorem After.mono {W W' : List DOp} {s img : Img} (h : After W s img) (hs : ∀ o ∈ W, o ∈ W') : After W' s img :=
  ⟨h.1, fun i => (h.2 i).imp id (fun ⟨b, h1, h2⟩ => ⟨b, hs _ h1, h2⟩)⟩
theorem After.none {W : List DOp} {s img : Img} (h : After W s img) {i : Nat} (hi : ∀ b, DOp.wr i b ∉ W) : img[i]? = s[i]? := by
  rcases h.2 i with h | ⟨b, h1, _⟩
  · exact h
  · exact absurd h1 (hi b)
theorem image_after : ∀ (W : List DOp) (D : Dsk), After W D.image (adds D W).image
  | [], D => ⟨rfl, fun i => .inl rfl⟩
  | o :: W, D => by
    obtain ⟨h1, h2⟩ := image_after W (D.add o)
    rw [adds_cons]
    cases o with
    | fl =>
      rw [Dsk.image_fl] at h1 h2
      exact ⟨h1, fun i => (h2 i).imp id (fun ⟨b, h3, h4⟩ => ⟨b, by simp [h3], h4⟩)⟩
    | wr n b =>
      rw [Dsk.image_wr] at h1 h2
      refine ⟨by rw [h1, List.length_set], fun i => ?_⟩
      rcases h2 i with h3 | ⟨c, h3, h4⟩
      · by_cases hin : n = i
        · subst hin
          by_cases hl : n < D.image.length
          · exact .inr ⟨b, by simp, by rw [h3, List.getElem?_set_self hl]⟩
          · left; rw [h3, List.getElem?_eq_none (by rw [List.length_set]; omega), List.getElem?_eq_none (by omega)]
        · left; rw [h3, List.getElem?_set_ne hin]
      · exact .inr ⟨c, by simp [h3], h4⟩
theorem crash_any {D : Dsk} {ks : List Int} (hok : D.Ok) (hk : D.may ks) (i : Nat) : (D.crash (ks.map Int.toNat)).image[i]? = D.safe[i]? ∨ ∃ b ∈ D.wait i, (D.crash (ks.map Int.toNat)).image[i]? = some b := by
  rw [D.crash_image]
  by_cases hi : ∃ j, ∃ (h : j < D.waiting.length) (_ : j < ks.length), D.waiting[j] = i
  · obtain ⟨j, h1, h2, rfl⟩ := hi
    have hw := (Dsk.mem_waiting hok).1 (List.getElem_mem h1)
    have h3 := crashed_at D.wait D.waiting (ks.map Int.toNat) D.safe j h1 (by simpa using h2) D.waiting_nodup (by rw [D.safe_length]; exact hok.waits hw)
    obtain ⟨h4, h5⟩ := hk.2 j h2 h1
    rw [h3, List.getElem_map]
    by_cases h0 : ks[j].toNat = 0
    · rw [if_pos h0]; exact .inl rfl
    · rw [if_neg h0]
      have hlt : ks[j].toNat - 1 < (D.wait D.waiting[j]).length := by omega
      right
      exact ⟨_, List.getElem_mem hlt, by rw [List.getElem?_eq_getElem hlt]; rfl⟩
  · left
    exact crashed_other _ _ _ _ _ (fun j h1 h2 he => absurd ⟨j, h1, by simpa using h2, he⟩ hi)
def Writes (W : List DOp) : Prop := ∀ o ∈ W, ∃ n b, o = DOp.wr n b
theorem writes_st : ∀ (W : List DOp) (D : Dsk), Writes W → (adds D W).safe = D.safe ∧ ∀ i b, b ∈ (adds D W).wait i → b ∈ D.wait i ∨ DOp.wr i b ∈ W
  | [], D, _ => ⟨rfl, fun i b h => .inl h⟩
  | o :: W, D, hW => by
    obtain ⟨n, c, rfl⟩ := hW o (by simp)
    obtain ⟨h1, h2⟩ := writes_st W (D.add (.wr n c)) (fun o ho => hW o (by simp [ho]))
    rw [adds_cons]
    refine ⟨h1.trans (D.safe_wr n c), fun i b hb => ?_⟩
    rcases h2 i b hb with h | h
    · rw [D.wait_wr] at h
      by_cases hi : i = n
      · subst hi
        simp only [if_true, List.mem_append, List.mem_singleton] at h
        rcases h with h | rfl
        · exact .inl h
        · exact .inr (by simp)
      · simp only [if_neg hi] at h; exact .inl h
    · exact .inr (by simp [h])
theorem Flat.image {D : Dsk} (h : Flat D) : D.image = D.safe := by
  unfold Dsk.image; rw [h]
  exact flushed_none _
theorem flat_fl (D : Dsk) : Flat (D.add .fl) := D.wait_fl
theorem crash_after {D : Dsk} {W : List DOp} {ks : List Int} (hf : Flat D) (hW : Writes W) (hok : (adds D W).Ok) (hk : (adds D W).may ks) : After W D.image ((adds D W).crash (ks.map Int.toNat)).image := by
  obtain ⟨h1, h2⟩ := writes_st W D hW
  refine ⟨by rw [Dsk.crash_length, adds_first, D.image_length], fun i => ?_⟩
  rcases crash_any hok hk i with h | ⟨b, hb, h⟩
  · left; rw [h, h1, hf.image]
  · right
    rcases h2 i b hb with h3 | h3
    · rw [hf] at h3; simp at h3
    · exact ⟨b, h3, h⟩
theorem adds_eq (D : Dsk) (l : List DOp) : adds D l = ⟨D.first, D.ops ++ l⟩ := by
  have h1 := adds_first D l
  have h2 := adds_ops D l
  generalize adds D l = E at h1 h2
  cases E; simp only at h1 h2; subst h1; subst h2; rfl
theorem adds_cut (D : Dsk) (l : List DOp) (j : Nat) : (adds D l).cut (D.ops.length + j) = adds D (l.take j) := by
  rw [adds_eq, adds_eq, Dsk.cut]
  simp [List.take_append, List.take_of_length_le]
theorem adds_cut_le (D : Dsk) (l : List DOp) {k : Nat} (h : k ≤ D.ops.length) : (adds D l).cut k = D.cut k := by
  rw [adds_eq, Dsk.cut, Dsk.cut]
  simp [List.take_append, Nat.sub_eq_zero_of_le h]
/-- Where a list of operations is cut. -/
theorem take_fl (A rest : List DOp) (j : Nat) : (j ≤ A.length ∧ (A ++ .fl :: rest).take j = A.take j) ∨ ∃ i, j = A.length + 1 + i ∧ (A ++ .fl :: rest).take j = A ++ .fl :: rest.take i := by
  by_cases h : j ≤ A.length
  · exact .inl ⟨h, by rw [List.take_append_of_le_length h]⟩
  · right
    refine ⟨j - A.length - 1, by omega, ?_⟩
    rw [List.take_append, List.take_of_length_le (by omega), show j - A.length = (j - A.length - 1) + 1 from by omega, List.take_succ_cons]
    simp
theorem tells_get {size : Nat} {img : Img} {i : Nat} (h : i < img.length) : img[i]? = some (img.getD i []) := by
  rw [List.getD_eq_getElem?_getD, List.getElem?_eq_getElem h]; rfl
theorem getD_of {img img' : Img} {i : Nat} (h : img[i]? = img'[i]?) : img.getD i [] = img'.getD i [] := by
  rw [List.getD_eq_getElem?_getD, List.getD_eq_getElem?_getD, h]
section home
variable {size : Nat} {D : Dsk} {ns : List Nat} {P : Img}
theorem home_writes (ps : List (Nat × List UInt8)) : Writes (homeOps size ps) := fun o ho => by
  obtain ⟨p, _, rfl⟩ := List.mem_map.1 ho; exact ⟨_, _, rfl⟩
theorem home_mem {ps : List (Nat × List UInt8)} {i : Nat} {b : List UInt8} (h : DOp.wr i b ∈ homeOps size ps) : ∃ n ∈ ps.map (·.1), i = size + 1 + n := by
  obtain ⟨p, hp, he⟩ := List.mem_map.1 h
  cases he; exact ⟨p.1, List.mem_map.2 ⟨p, hp, rfl⟩, rfl⟩
/-- What is told, of a head that names pages. -/
def Told (size : Nat) (img : Img) (ns : List Nat) (P : Img) : Prop := headOf (min size 100) (img.length - size - 1) (img.getD 0 []) = some ns ∧ P.length = img.length - size - 1 ∧
  (∀ i (h : i < ns.length), P[ns[i]]? = img[1 + i]?) ∧ ∀ s, s < P.length → s ∉ ns → P[s]? = img[size + 1 + s]?
theorem Told.tells {img : Img} (h : Told size img ns P) : Tells size img P := ⟨ns, h⟩
theorem Told.len {img : Img} (h : Told size img ns P) : ns.length ≤ size ∧ ns.length ≤ 100 := by
  have := (headOf_good h.1).2; omega
theorem told_after {img : Img} (h : Told size D.image ns P) (ha : After (homeOps size (pairsOf D ns)) D.image img) : Told size img ns P := by
  have hl := h.len
  obtain ⟨h1, h2, h3, h4⟩ := h
  have h0 : img[0]? = D.image[0]? := ha.none (fun b hb => by
    obtain ⟨n, _, hn⟩ := home_mem hb; omega)
  refine ⟨by rw [ha.1, getD_of h0]; exact h1, by rw [ha.1]; exact h2, fun i hi => ?_, fun s hs hsn => ?_⟩
  · rw [h3 i hi]
    exact (ha.none (fun b hb => by obtain ⟨n, _, hn⟩ := home_mem hb; omega)).symm
  · rw [h4 s hs hsn]
    exact (ha.none (fun b hb => by
      obtain ⟨n, hm, hn⟩ := home_mem hb
      rw [pairsOf_fst] at hm
      exact hsn (by rw [show s = n from by omega]; exact hm))).symm
theorem home_full (h : Told size D.image ns P) (hsz : size + 2 ≤ D.first.length) {s : Nat} (hs : s < P.length) : (adds D (homeOps size (pairsOf D ns))).image[size + 1 + s]? = P[s]? := by
  have hl := h.len
  obtain ⟨h1, h2, h3, h4⟩ := h
  obtain ⟨hr, hp⟩ := (headOf_good h1).1
  rw [D.image_length] at h2 hp
  by_cases hm : s ∈ ns
  · obtain ⟨i, hi, rfl⟩ := List.getElem_of_mem hm
    have hq : (ns[i], D.image.getD (1 + i) []) ∈ pairsOf D ns := by
      rw [← pairsOf_get D ns (i := i) (by rw [pairsOf_length]; exact hi)]; exact List.getElem_mem _
    rw [image_home size _ D (by rw [pairsOf_fst]; exact nodup_lt hr) (fun p hp' => ?_) _ hq, h3 i hi]
    · exact (tells_get (size := 0) (by rw [D.image_length]; omega)).symm
    · have : p.1 ∈ ns := by rw [← pairsOf_fst D ns]; exact List.mem_map.2 ⟨p, hp', rfl⟩
      have := hp _ this; omega
  · rw [image_home_other size _ _ D (fun p hp' he => hm ?_)]
    · exact (h4 s hs hm).symm
    · have : p.1 ∈ ns := by rw [← pairsOf_fst D ns]; exact List.mem_map.2 ⟨p, hp', rfl⟩
      rw [show s = p.1 from by omega]; exact this
theorem headB_nil {cap pages : Nat} (hc : cap ≤ 100) (hp : pages ≤ 65536) : headOf cap pages (headB []) = some [] := headOf_headB hc (Nat.zero_le _) hp (goodN_nil _)
theorem tells_empty {img : Img} (h : Told size D.image ns P) (hok : D.Ok) (hsz : size + 2 ≤ D.first.length) (ha : After [.wr 0 (headB [])] (adds D (homeOps size (pairsOf D ns))).image img) : Tells size img P := by
  have him := image_after (homeOps size (pairsOf D ns)) D
  rcases ha.2 0 with h0 | ⟨b, hb, h0⟩
  · have heq : img = (adds D (homeOps size (pairsOf D ns))).image := List.ext_getElem? fun i => by
      by_cases hi : i = 0
      · subst hi; exact h0
      · exact ha.none (fun b hb => by simp only [List.mem_singleton, DOp.wr.injEq] at hb; exact hi hb.1)
    rw [heq]
    exact (told_after h him).tells
  · simp only [List.mem_singleton, DOp.wr.injEq, true_and] at hb
    subst hb
    have hlen : img.length = D.first.length := by rw [ha.1, Dsk.image_length, adds_first]
    have hP := h.2.1
    rw [D.image_length] at hP
    have hmost := hok.most
    refine ⟨[], by rw [List.getD_eq_getElem?_getD, h0]; exact headB_nil (by omega) (by omega), by rw [hlen]; exact hP, fun i hi => by simp at hi, fun s hs _ => ?_⟩
    rw [← home_full h hsz hs]
    exact (ha.none (fun b hb => by simp only [List.mem_singleton, DOp.wr.injEq] at hb; omega)).symm
/-- What brings pages home. -/
def homeT (size : Nat) (ps : List (Nat × List UInt8)) : List DOp := homeOps size ps ++ [.fl, .wr 0 (headB []), .fl]
theorem homed_adds (size : Nat) (D : Dsk) (ps : List (Nat × List UInt8)) : homed size D ps = adds D (homeT size ps) := by
  rw [homeT, adds_append]; rfl
theorem After.eq {s img : Img} (h : After [] s img) : img = s := List.ext_getElem? fun i => h.none (fun b hb => by simp at hb)
theorem crash_home (hf : Flat D) (h : Told size D.image ns P) (hok : D.Ok) (hsz : size + 2 ≤ D.first.length) (j : Nat) (ks : List Int) (hokj : (adds D ((homeT size (pairsOf D ns)).take j)).Ok) (hk : (adds D ((homeT size (pairsOf D ns)).take j)).may ks) :
    Tells size ((adds D ((homeT size (pairsOf D ns)).take j)).crash (ks.map Int.toNat)).image P := by
  have hw1 : Writes [.wr 0 (headB [])] := fun o ho => ⟨_, _, List.mem_singleton.1 ho⟩
  rcases take_fl (homeOps size (pairsOf D ns)) [.wr 0 (headB []), .fl] j with ⟨hj, ht⟩ | ⟨i, hj, ht⟩
  · rw [show homeT size (pairsOf D ns) = homeOps size (pairsOf D ns) ++ .fl :: [.wr 0 (headB []), .fl] from rfl] at hokj hk ⊢
    rw [ht] at hokj hk ⊢
    exact (told_after h ((crash_after hf (fun o ho => home_writes _ o (List.mem_of_mem_take ho)) hokj hk).mono (fun o ho => List.mem_of_mem_take ho))).tells
  · rw [show homeT size (pairsOf D ns) = homeOps size (pairsOf D ns) ++ .fl :: [.wr 0 (headB []), .fl] from rfl] at hokj hk ⊢
    rw [ht, adds_append, adds_cons] at hokj hk ⊢
    have hf1 : Flat ((adds D (homeOps size (pairsOf D ns))).add .fl) := flat_fl _
    have hi1 : ((adds D (homeOps size (pairsOf D ns))).add .fl).image = (adds D (homeOps size (pairsOf D ns))).image := Dsk.image_fl _
    match i, hokj, hk with
    | 0, hokj, hk =>
      have := crash_after (W := []) hf1 (fun o ho => by simp at ho) hokj hk
      have he := this.eq
      rw [List.take_zero, he, hi1]
      exact (told_after h (image_after _ D)).tells
    | 1, hokj, hk =>
      have := crash_after (W := [.wr 0 (headB [])]) hf1 hw1 hokj hk
      rw [hi1] at this
      exact tells_empty h hok hsz this
    | i + 2, hokj, hk =>
      have ht2 : ([.wr 0 (headB []), .fl] : List DOp).take (i + 2) = [.wr 0 (headB []), .fl] := List.take_of_length_le (by simp)
      rw [ht2] at hokj hk ⊢
      rw [adds_cons, adds_cons, adds_nil] at hokj hk ⊢
      have := crash_after (W := []) (flat_fl (((adds D (homeOps size (pairsOf D ns))).add .fl).add (.wr 0 (headB [])))) (fun o ho => by simp at ho) hokj hk
      have he := this.eq
      rw [adds_nil] at he
      rw [he, Dsk.image_fl]
      refine tells_empty h hok hsz ?_
      have := image_after [.wr 0 (headB [])] ((adds D (homeOps size (pairsOf D ns))).add .fl)
      rw [hi1] at this
      exact this
end home
theorem copy_writes : ∀ (ps : List (Nat × List UInt8)) (k : Nat), Writes (copyOps k ps)
  | [], _ => fun o ho => by simp [copyOps] at ho
  | p :: ps, k => fun o ho => by
    rw [copyOps] at ho
    rcases List.mem_cons.1 ho with rfl | ho
    · exact ⟨_, _, rfl⟩
    · exact copy_writes ps (k + 1) o ho
theorem copy_mem : ∀ (ps : List (Nat × List UInt8)) (k : Nat) {i : Nat} {b : List UInt8}, DOp.wr i b ∈ copyOps k ps → 1 + k ≤ i ∧ i < 1 + k + ps.length
  | [], _, _, _, h => by simp [copyOps] at h
  | p :: ps, k, i, b, h => by
    rw [copyOps] at h
    rcases List.mem_cons.1 h with h | h
    · cases h; simp
    · have := copy_mem ps (k + 1) h; simp; omega
/-- The pages. -/
def pg (size : Nat) (D : Dsk) : Img := D.image.drop (size + 1)
theorem pg_length (size : Nat) (D : Dsk) : (pg size D).length = D.first.length - size - 1 := by simp [pg, D.image_length]; omega
theorem pg_get (size : Nat) (D : Dsk) (s : Nat) : (pg size D)[s]? = D.image[size + 1 + s]? := by rw [pg, List.getElem?_drop]
theorem calm_head {D : Dsk} (h : Calm D) {cap pages : Nat} (hc : cap ≤ 100) (hp : pages ≤ 65536) : headOf cap pages (D.image.getD 0 []) = some [] := by
  rw [List.getD_eq_getElem?_getD]
  rcases h with h | h <;> rw [h]
  · exact headOf_zsec _ _
  · exact headB_nil hc hp
theorem calm_tells {size : Nat} {D : Dsk} {img : Img} (h : Calm D) (hok : D.Ok) (hl : img.length = D.image.length) (h0 : img[0]? = D.image[0]?) (hp : ∀ s, img[size + 1 + s]? = D.image[size + 1 + s]?) : Tells size img (pg size D) := by
  have hmost := hok.most
  have hil := D.image_length
  refine ⟨[], by rw [getD_of h0]; exact calm_head h (by omega) (by omega), by rw [pg_length, hl, hil], fun i hi => by simp at hi, fun s _ _ => by rw [pg_get, hp]⟩
section group
variable {size : Nat} {D : Dsk} {ps : List (Nat × List UInt8)}
/-- A group that may be. -/
structure GroupOk (size : Nat) (D : Dsk) (ps : List (Nat × List UInt8)) : Prop where
  rise : (ps.map (·.1)).Pairwise (· < ·)
  lt : ∀ p ∈ ps, p.1 < D.first.length - size - 1
  len : ps.length ≤ min size 100
  b512 : ∀ p ∈ ps, p.2.length = 512
def headT (ps : List (Nat × List UInt8)) : List DOp := copyOps 0 ps ++ [.fl, .wr 0 (headB (ps.map (·.1))), .fl]
theorem groupOps_parts (size : Nat) (ps : List (Nat × List UInt8)) : groupOps size ps = headT ps ++ homeT size ps := by simp [groupOps, headT, homeT]
theorem told_head {img : Img} (hg : GroupOk size D ps) (hok : D.Ok) (hsz : size + 2 ≤ D.first.length) (hl : img.length = D.first.length) (h0 : img[0]? = some (headB (ps.map (·.1)))) (hi : ∀ i, i ≠ 0 → img[i]? = (adds D (copyOps 0 ps)).image[i]?) : Told size img (ps.map (·.1)) (pg size (grouped size D ps)) := by
  have hmost := hok.most
  have hlen := hg.len
  refine ⟨?_, by rw [pg_length, grouped_first, hl], fun i hi' => ?_, fun s hs hsn => ?_⟩
  · rw [List.getD_eq_getElem?_getD, h0]
    exact headOf_headB (by omega) (by simpa using hlen) (by omega) ⟨hg.rise, fun n hn => by obtain ⟨p, hp, rfl⟩ := List.mem_map.1 hn; rw [hl]; exact hg.lt p hp⟩
  · have hi2 : i < ps.length := by simpa using hi'
    rw [hi (1 + i) (by omega), List.getElem_map, pg_get]
    have h1 := grouped_page (size := size) (D := D) (ps := ps) (nodup_lt hg.rise) (fun p hp => by have := hg.lt p hp; omega) (List.getElem_mem hi2)
    have h2 := image_copied ps 0 D i hi2 (by omega)
    rw [show 1 + 0 + i = 1 + i from by omega] at h2
    rw [h1, h2]
  · rw [pg_get, hi (size + 1 + s) (by omega), grouped_other (by omega) (by omega) (fun p hp he => hsn (List.mem_map.2 ⟨p, hp, by omega⟩)), image_copy _ ps 0 D (by omega)]
theorem crash_group (hg : GroupOk size D ps) (hf : Flat D) (hc : Calm D) (hok : D.Ok) (hsz : size + 2 ≤ D.first.length) (j : Nat) (ks : List Int) (hokj : (adds D ((groupOps size ps).take j)).Ok) (hk : (adds D ((groupOps size ps).take j)).may ks) :
    (Tells size ((adds D ((groupOps size ps).take j)).crash (ks.map Int.toNat)).image (pg size D) ∧ j < (groupOps size ps).length) ∨ (Tells size ((adds D ((groupOps size ps).take j)).crash (ks.map Int.toNat)).image (pg size (grouped size D ps)) ∧ j ≠ 0) := by
  have hgl := groupOps_length size ps
  have hlen := hg.len
  have hw1 : Writes [.wr 0 (headB (ps.map (·.1)))] := fun o ho => ⟨_, _, List.mem_singleton.1 ho⟩
  have hform : groupOps size ps = copyOps 0 ps ++ .fl :: (.wr 0 (headB (ps.map (·.1))) :: .fl :: homeT size ps) := by simp [groupOps, homeT]
  have hahead : ∀ {img : Img}, After (copyOps 0 ps) D.image img → Tells size img (pg size D) := fun {img} ha =>
    calm_tells hc hok ha.1 (ha.none (fun b hb => by have := copy_mem _ _ hb; omega)) (fun s => ha.none (fun b hb => by have := copy_mem _ _ hb; omega))
  have hf1 : Flat ((adds D (copyOps 0 ps)).add .fl) := flat_fl _
  have hi1 : ((adds D (copyOps 0 ps)).add .fl).image = (adds D (copyOps 0 ps)).image := Dsk.image_fl _
  have hlen1 : (adds D (copyOps 0 ps)).image.length = D.first.length := by rw [Dsk.image_length, adds_first]
  rw [hgl]
  rw [hform] at hokj hk ⊢
  rcases take_fl (copyOps 0 ps) (.wr 0 (headB (ps.map (·.1))) :: .fl :: homeT size ps) j with ⟨hj, ht⟩ | ⟨i, hj, ht⟩
  · rw [copyOps_length] at hj
    rw [ht] at hokj hk ⊢
    exact .inl ⟨hahead ((crash_after hf (fun o ho => copy_writes ps 0 o (List.mem_of_mem_take ho)) hokj hk).mono (fun o ho => List.mem_of_mem_take ho)), by omega⟩
  · rw [copyOps_length] at hj
    rw [ht, adds_append, adds_cons] at hokj hk ⊢
    match i, hj, hokj, hk with
    | 0, hj, hokj, hk =>
      have he := (crash_after (W := []) hf1 (fun o ho => by simp at ho) hokj hk).eq
      left
      rw [List.take_zero, he, hi1]
      exact ⟨hahead (image_after _ D), by omega⟩
    | 1, hj, hokj, hk =>
      have ht1 : (DOp.wr 0 (headB (ps.map (·.1))) :: DOp.fl :: homeT size ps).take 1 = [.wr 0 (headB (ps.map (·.1)))] := rfl
      rw [ht1] at hokj hk ⊢
      have ha := crash_after (D := (adds D (copyOps 0 ps)).add .fl) (W := [.wr 0 (headB (ps.map (·.1)))]) (ks := ks) hf1 hw1 (by exact hokj) (by exact hk)
      rw [hi1] at ha
      have hno : ∀ i, i ≠ 0 → _ := fun i hi => ha.none (i := i) (fun b hb => by simp only [List.mem_singleton, DOp.wr.injEq] at hb; exact hi hb.1)
      rcases ha.2 0 with h0 | ⟨b, hb, h0⟩
      · left
        refine ⟨?_, by omega⟩
        have heq : ((adds ((adds D (copyOps 0 ps)).add .fl) [.wr 0 (headB (ps.map (·.1)))]).crash (ks.map Int.toNat)).image = (adds D (copyOps 0 ps)).image := List.ext_getElem? fun i => by
          by_cases hi : i = 0
          · subst hi; exact h0
          · exact hno i hi
        rw [heq]
        exact hahead (image_after _ D)
      · right
        simp only [List.mem_singleton, DOp.wr.injEq, true_and] at hb
        subst hb
        exact ⟨(told_head hg hok hsz (by rw [ha.1]; exact hlen1) h0 hno).tells, by omega⟩
    | i + 2, hj, hokj, hk =>
      right
      refine ⟨?_, by omega⟩
      rw [List.take_succ_cons, List.take_succ_cons, adds_cons, adds_cons] at hokj hk ⊢
      have hf2 : Flat ((((adds D (copyOps 0 ps)).add .fl).add (.wr 0 (headB (ps.map (·.1))))).add .fl) := flat_fl _
      have hi2 : ((((adds D (copyOps 0 ps)).add .fl).add (.wr 0 (headB (ps.map (·.1))))).add .fl).image = (adds D (copyOps 0 ps)).image.set 0 (headB (ps.map (·.1))) := by rw [Dsk.image_fl, Dsk.image_wr, hi1]
      have hfst : ((((adds D (copyOps 0 ps)).add .fl).add (.wr 0 (headB (ps.map (·.1))))).add .fl).first = D.first := adds_first D (copyOps 0 ps)
      have hok2 : ((((adds D (copyOps 0 ps)).add .fl).add (.wr 0 (headB (ps.map (·.1))))).add .fl).Ok := by
        refine ⟨fun b hb => hok.rows b (by rw [← hfst]; exact hb), fun n b hm => ?_, by rw [hfst]; exact hok.some, by rw [hfst]; exact hok.most⟩
        have := hokj.ops n b (by rw [adds_ops]; exact List.mem_append_left _ hm)
        rw [adds_first] at this; exact this
      have htold : Told size ((((adds D (copyOps 0 ps)).add .fl).add (.wr 0 (headB (ps.map (·.1))))).add .fl).image (ps.map (·.1)) (pg size (grouped size D ps)) := by
        rw [hi2]
        exact told_head hg hok hsz (by rw [List.length_set]; exact hlen1) (List.getElem?_set_self (by rw [hlen1]; omega)) (fun i hi => List.getElem?_set_ne (fun h => hi h.symm))
      have hpairs : pairsOf ((((adds D (copyOps 0 ps)).add .fl).add (.wr 0 (headB (ps.map (·.1))))).add .fl) (ps.map (·.1)) = ps := by
        refine List.ext_getElem (by rw [pairsOf_length, List.length_map]) fun i h1 h2 => ?_
        rw [pairsOf_get, hi2, List.getD_eq_getElem?_getD, List.getElem?_set_ne (by omega)]
        have := image_copied ps 0 D i h2 (by omega)
        rw [show 1 + 0 + i = 1 + i from by omega] at this
        rw [this, List.getElem_map]; rfl
      have hsz2 : size + 2 ≤ ((((adds D (copyOps 0 ps)).add .fl).add (.wr 0 (headB (ps.map (·.1))))).add .fl).first.length := by rw [hfst]; exact hsz
      have := crash_home hf2 htold hok2 hsz2 i ks (by rw [hpairs]; exact hokj) (by rw [hpairs]; exact hk)
      rw [hpairs] at this
      exact this
end group
/-- Behind an opening. -/
theorem tells_opened {size : Nat} {D : Dsk} {P : Img} (hok : D.Ok) (hsz : size + 2 ≤ D.first.length) (h : Tells size D.image P) :
    ∃ ns E, D.head size = some ns ∧ Told size D.image ns P ∧ opened size D = some (E, ns.length) ∧ E = (if ns = [] then D else adds D (homeT size (pairsOf D ns))) ∧ lpages size E = P.take 100 := by
  obtain ⟨ns, ht⟩ := h
  have hP := ht.2.1
  have hh : D.head size = some ns := by
    unfold Dsk.head; rw [← D.image_length]; exact ht.1
  by_cases hn : ns = []
  · subst hn
    refine ⟨[], D, hh, ht, opened_nil hh, by rw [if_pos rfl], ?_⟩
    rw [lpages]
    congr 1
    refine List.ext_getElem? fun s => ?_
    rw [List.getElem?_drop]
    by_cases hs : s < P.length
    · exact (ht.2.2.2 s hs (by simp)).symm
    · rw [List.getElem?_eq_none (by omega), List.getElem?_eq_none (by omega)]
  · refine ⟨ns, _, hh, ht, opened_some hh hn, by rw [if_neg hn, homed_adds], ?_⟩
    rw [lpages]
    congr 1
    have himg : (homed size D (pairsOf D ns)).image = (adds D (homeOps size (pairsOf D ns))).image.set 0 (headB []) := by rw [homed, Dsk.image_fl, Dsk.image_wr, Dsk.image_fl]
    rw [himg]
    refine List.ext_getElem? fun s => ?_
    rw [List.getElem?_drop, List.getElem?_set_ne (by omega)]
    by_cases hs : s < P.length
    · exact home_full ht hsz hs
    · rw [List.getElem?_eq_none (by rw [Dsk.image_length, adds_first]; rw [D.image_length] at hP; omega), List.getElem?_eq_none (by omega)]
end Go.Proofs.YtgmodahpcpepjaaGreat

/- What a crash keeps; a disk that is cut, and crashed. -/
namespace Go.Proofs.YtgmodahpcpepjaaGreat
open Go
set_option linter.unusedSimpArgs false
open Go.RowKit (intOf)
/-- A row of rows in nobody's blocks. -/
def Zero (G : Gh) (w : World) (v : Value) (xs : List Value) : Prop := Has 1 w v xs ∧ ∀ b, v.ownBlock = some b → xs ≠ [] → b < w.heap.size ∧ G.own b = 0
theorem Zero.ext {K : Nat → Prop} {G G' : Gh} {w w' : World} {v : Value} {xs : List Value} (h : Zero G w v xs) (hx : Ext K G w G' w') (h0 : ¬ K 0) : Zero G' w' v xs := by
  refine ⟨h.1.keep hx.keep (fun b hb hne => by rw [(h.2 b hb hne).2]; exact h0), fun b hb hne => ?_⟩
  obtain ⟨h1, h2⟩ := h.2 b hb hne
  exact ⟨Nat.lt_of_lt_of_le h1 hx.size, by rw [hx.own b h1]; exact h2⟩
theorem Zero.own {B k : Nat} {t : TypeId} {w w' : World} {G : Gh} {v : Value} {xs : List Value} (h : w'.ownsRow B t 1 v k xs) (hB : w.heap.size ≤ B) : Zero (G.new w.heap.size) w' v xs :=
  ⟨Has.own h, fun b hb _ => ⟨(World.ownsRow.lt h b hb).2, Gh.new_own (Nat.le_trans hB (World.ownsRow.lt h b hb).1)⟩⟩
def ZRows (G : Gh) (w : World) : List Value → List (List UInt8) → Prop
  | [], [] => True
  | v :: vs, l :: ls => Zero G w v (bs l) ∧ ZRows G w vs ls
  | _, _ => False
theorem ZRows.ext {K : Nat → Prop} {G G' : Gh} {w w' : World} (hx : Ext K G w G' w') (h0 : ¬ K 0) : ∀ {vs : List Value} {ls : List (List UInt8)}, ZRows G w vs ls → ZRows G' w' vs ls
  | [], [], _ => trivial
  | _ :: _, _ :: _, ⟨h1, h2⟩ => ⟨h1.ext hx h0, ZRows.ext hx h0 h2⟩
theorem ZRows.rows {G : Gh} {w : World} : ∀ {vs : List Value} {ls : List (List UInt8)}, ZRows G w vs ls → Rows w vs ls
  | [], [], _ => trivial
  | _ :: _, _ :: _, ⟨h1, h2⟩ => ⟨h1.1, h2.rows⟩
theorem ZRows.own {B : Nat} {t : TypeId} {w w' : World} {G : Gh} (hB : w.heap.size ≤ B) : ∀ {vs : List Value} {ls : List (List UInt8)}, RowsO B t w' vs ls → ZRows (G.new w.heap.size) w' vs ls
  | [], [], _ => trivial
  | _ :: _, _ :: _, ⟨h1, h2⟩ => ⟨.own h1 hB, ZRows.own hB h2⟩
def ZeroR (G : Gh) (w : World) (v : Value) (ls : List (List UInt8)) : Prop := ∃ vs, Zero G w v vs ∧ ZRows G w vs ls
theorem ZeroR.ext {K : Nat → Prop} {G G' : Gh} {w w' : World} {v : Value} {ls : List (List UInt8)} (h : ZeroR G w v ls) (hx : Ext K G w G' w') (h0 : ¬ K 0) : ZeroR G' w' v ls := let ⟨vs, h1, h2⟩ := h; ⟨vs, h1.ext hx h0, h2.ext hx h0⟩
theorem ZeroR.has {G : Gh} {w : World} {v : Value} {ls : List (List UInt8)} (h : ZeroR G w v ls) : HasR w v ls := let ⟨vs, h1, h2⟩ := h; ⟨vs, h1.1, h2.rows⟩
theorem FreshR.zero {B : Nat} {tr t : TypeId} {G : Gh} {w w' : World} {v : Value} {ls : List (List UInt8)} (h : FreshR B tr t w' v ls) (hB : w.heap.size ≤ B) : ZeroR (G.new w.heap.size) w' v ls := let ⟨vs, h1, h2⟩ := h; ⟨vs, .own h1 hB, .own hB h2⟩
end Go.Proofs.YtgmodahpcpepjaaGreat

/- The reference's log: its head is written, pages are brought home. -/
namespace Go.Proofs.YtgmodahpcpepjaaGreat
open Go
set_option linter.unusedSimpArgs false
open Go.RowKit (intOf)
/-- The head's cells while it is written. -/
def bufV (ns : List Nat) (i : Nat) : List Value := bs (headP ns i) ++ List.replicate (508 - 2 * i) (.int .u8 0)
theorem bufV_first (ns : List Nat) : ((((List.replicate 512 (Value.int .u8 0)).set 0 (.int .u8 68)).set 1 (.int .u8 78)).set 2 (.int .u8 (((ns.length : Int) / 256) % 256))).set 3 (.int .u8 ((ns.length : Int) % 256)) = bufV ns 0 := by
  have h : ∀ z : Value, List.replicate 512 z = z :: z :: z :: z :: List.replicate 508 z := fun z => rfl
  rw [h, bufV]
  have hbs : bs (headP ns 0) = [Value.int .u8 68, Value.int .u8 78, Value.int .u8 (((ns.length : Int) / 256) % 256), Value.int .u8 ((ns.length : Int) % 256)] := by
    simp [headP, bs, hi_val, lo_val]
  rw [hbs, show 508 - 2 * 0 = 508 from rfl]
  generalize List.replicate 508 (Value.int .u8 0) = r
  rfl
theorem bufV_succ (ns : List Nat) {i : Nat} (h : i < ns.length) (hl : ns.length ≤ 100) : ((bufV ns i).set (4 + 2 * i) (.int .u8 (((ns[i] : Nat) : Int) / 256 % 256))).set (5 + 2 * i) (.int .u8 (((ns[i] : Nat) : Int) % 256)) = bufV ns (i + 1) := by
  have hpl := headP_length ns (Nat.le_of_lt h)
  have h1 : (bs (headP ns i)).length = 4 + 2 * i := by rw [bs_length, hpl]
  have hr : List.replicate (508 - 2 * i) (Value.int .u8 0) = .int .u8 0 :: .int .u8 0 :: List.replicate (508 - 2 * (i + 1)) (.int .u8 0) := by
    rw [show 508 - 2 * i = (508 - 2 * (i + 1)) + 1 + 1 from by omega, List.replicate_succ, List.replicate_succ]
  rw [bufV, List.set_append_right _ _ (by rw [h1]; exact Nat.le_refl _), h1, Nat.sub_self, hr, List.set_cons_zero, List.set_append_right _ _ (by rw [h1]; omega), h1, show 5 + 2 * i - (4 + 2 * i) = 1 from by omega, List.set_cons_succ, List.set_cons_zero, bufV, headP_succ ns h]
  simp only [bs, List.map_append, List.map_cons, List.map_nil, hi_val, lo_val, List.append_assoc, List.cons_append, List.nil_append]
theorem bufV_all (ns : List Nat) : bufV ns ns.length = bs (headB ns) := by
  rw [bufV, zero_cells, ← headP_all ns]
  simp [bs]
theorem rsetHead_spec {G : Gh} {κ : Nat} {w : World} {q size came : Nat} {D : Dsk} {nv : Value} {ns : List Nat} (h : RLogAt G κ w q size came D) (hn : HasI w nv (zs ns)) (hl : ns.length ≤ 100) (ho : D.ops.length < 900000) :
    Calls Tryz.prog 81 #[.pointer (some ⟨q, 0, none⟩), nv] w (Ret fun _ w' => ∃ G', RLogAt G' κ w' q size came ((D.add (.wr 0 (headB ns))).add .fl) ∧ Ext (fun c => c = κ) G w G' w') := by
  have hlog := h
  obtain ⟨hκ, hsz1, hsz2, ho0, p, hq, hd⟩ := h
  have hlen : ∀ w', lenF w' 0 nv = some (.int .i64 ns.length) := fun w' => by rw [hn.lenI]; simp
  have hmost := hd.ok.most
  have hsome := hd.ok.some
  apply enter81
  apply R_in
  simp (maxSteps := 1000000) (disch := omega) only [↓sy1, sy2, sy3, readOK, sy5, sy6, Nat.reduceEqDiff, ↓reduceIte, sy7, sy8, sy9, sya, oneOf, syb, syc, Nat.reduceAdd, Nat.reduceMul, syd, sye, syf, syg, syh, reduceCtorEq, F81]
  refine mk_rule elemB (kx := .i64) (ky := .i64) (a := 512) (c := 512) (by simp only [upd_at, Nat.reduceEqDiff, reduceIte, ev_tmp, ev_const, List.map_cons, List.map_nil]) (by simp only [upd_at, Nat.reduceEqDiff, reduceIte, ev_tmp, ev_const, List.map_cons, List.map_nil]) (by omega) (by omega) (by omega) (by omega) rfl ?_
  have hg1 : Grow w (w.alloc (.cells (Array.replicate (512 : Int).toNat (.int .u8 0)) 5)) := (Keep.refl _ _).alloc _
  have ho1 := own_made w w.heap.size (Nat.le_refl _) 5 (512 : Int).toNat (by decide) (.int .u8 0)
  generalize w.alloc (.cells (Array.replicate (512 : Int).toNat (.int .u8 0)) 5) = w1 at hg1 ho1 ⊢
  rw [show (512 : Int).toNat = 512 from rfl] at ho1 ⊢
  generalize (Value.slice (some ⟨w.heap.size, 0, none⟩) 512 512) = bv at ho1 ⊢
  obtain ⟨a0, w2, ha0, hs0, ho2, hk2, _⟩ := own_store ho1 (i := 0) (by omega) (u := .int .u8 68) rfl
  obtain ⟨a1, w3, ha1, hs1, ho3, hk3, _⟩ := own_store ho2 (i := 1) (by omega) (u := .int .u8 78) rfl
  obtain ⟨a2, w4, ha2, hs2, ho4, hk4, _⟩ := own_store ho3 (i := 2) (by omega) (u := .int .u8 (((ns.length : Int) / 256) % 256)) rfl
  obtain ⟨a3, w5, ha3, hs3, ho5, hk5, _⟩ := own_store ho4 (i := 3) (by omega) (u := .int .u8 ((ns.length : Int) % 256)) rfl
  have ha0' : iaF 1 bv (.int .i64 0) = some (.pointer (some a0)) := ha0
  have ha1' : iaF 1 bv (.int .i64 1) = some (.pointer (some a1)) := ha1
  have ha2' : iaF 1 bv (.int .i64 2) = some (.pointer (some a2)) := ha2
  have ha3' : iaF 1 bv (.int .i64 3) = some (.pointer (some a3)) := ha3
  simp (maxSteps := 1000000) (disch := omega) only [↓sy1, sy2, sy3, readOK, sy5, sy6, Nat.reduceEqDiff, ↓reduceIte, sy7, sy8, sy9, sya, oneOf, syb, syc, Nat.reduceAdd, Nat.reduceMul, syd, sye, syf, syg, syh, reduceCtorEq, hlen, bin_shr8, ha0', ha1', ha2', ha3', hs0, hs1, hs2, hs3]
  have hnew : ∀ b, b < w.heap.size → ¬ (bv.ownBlock = some b) := fun b hb h => by have := (World.ownsRow.lt ho1 b h).1; omega
  have hg5 : Grow w w5 := (((hg1.then hk2 (fun b hb h => hnew b hb h)).then hk3 (fun b hb h => hnew b hb h)).then hk4 (fun b hb h => hnew b hb h)).then hk5 (fun b hb h => hnew b hb h)
  rw [bufV_first] at ho5
  refine loop_rule (fun e w' => ∃ i : Nat, i ≤ ns.length ∧ e 5 = .int .i64 i ∧ e 4 = bv ∧ e 1 = nv ∧ e 0 = .pointer (some ⟨q, 0, none⟩) ∧ w'.ownsRow w.heap.size 5 1 bv 512 (bufV ns i) ∧ Grow w w') (fun e _ => ns.length - (intOf (e 5)).toNat)
    ⟨0, by omega, by simp [upd, updO, ev], by simp [upd, updO, ev], by simp [upd, updO, ev], by simp [upd, updO, ev], ho5, hg5⟩ ?_
  rintro e w6 ⟨i, hi, e5, e4, e1, e0, ho6, hg6⟩
  by_cases hlt : i < ns.length
  · simp (maxSteps := 1000000) (disch := omega) only [↓sy1, sy2, sy3, readOK, sy5, sy6, Nat.reduceEqDiff, ↓reduceIte, sy7, sy8, sy9, sya, oneOf, syb, syc, Nat.reduceAdd, Nat.reduceMul, syd, sye, syf, syg, syh, reduceCtorEq, F81_L0, e5, e4, e1, e0, hlen, Int.ofNat_lt, hlt, decide_true]
    refine draw81_0 (fun _ => False) ?_
    have hgd : Grow w6 w6.drew := (Keep.refl _ _).drew
    have ho7 := own_grow ho6 hgd
    have hg7 := hg6.trans hgd
    generalize w6.drew = w7 at ho7 hg7 ⊢
    obtain ⟨a, ha, hac, _⟩ := (hn.grow hg7).getI (l := zs ns) (i := i) (by simpa using hlt)
    have hnv : (zs ns)[i]'(by simpa using hlt) = ((ns[i] : Nat) : Int) := by simp
    rw [hnv] at hac
    obtain ⟨a4, w8, ha4, hs4, ho8, hk8, _⟩ := own_store ho7 (i := 4 + 2 * i) (by omega) (u := .int .u8 (((ns[i] : Nat) : Int) / 256 % 256)) rfl
    obtain ⟨a5, w9, ha5, hs5, ho9, hk9, _⟩ := own_store ho8 (i := 5 + 2 * i) (by omega) (u := .int .u8 (((ns[i] : Nat) : Int) % 256)) rfl
    have hc4 : (4 : Int) + 2 * (i : Int) = ((4 + 2 * i : Nat) : Int) := by omega
    have hc5 : (5 : Int) + 2 * (i : Int) = ((5 + 2 * i : Nat) : Int) := by omega
    rw [bufV_succ ns hlt hl] at ho9
    simp (maxSteps := 1000000) (disch := omega) only [↓sy1, sy2, sy3, readOK, sy5, sy6, Nat.reduceEqDiff, ↓reduceIte, sy7, sy8, sy9, sya, oneOf, syb, syc, Nat.reduceAdd, Nat.reduceMul, syd, sye, syf, syg, syh, reduceCtorEq, PL81_0, e5, e4, e1, e0, hc4, hc5, ha, hac, bin_shr8, ha4, ha5, hs4, hs5]
    refine R_out ⟨⟨i + 1, by omega, rfl, ho9, (hg7.then hk8 (fun b hb h => hnew b hb h)).then hk9 (fun b hb h => hnew b hb h)⟩, ?_⟩
    simp only [intOf]; omega
  · have hie : i = ns.length := by omega
    subst hie
    rw [bufV_all] at ho6
    have hqp : ∀ {w'}, Grow w w' → w'.cell? ⟨q, 0, none⟩ = some (.pointer (some ⟨p, 0, none⟩)) := fun hg => by rw [cell_block (hg.gheap hq)]; rfl
    simp (maxSteps := 1000000) (disch := omega) only [↓sy1, sy2, sy3, readOK, sy5, sy6, Nat.reduceEqDiff, ↓reduceIte, sy7, sy8, sy9, sya, oneOf, syb, syc, Nat.reduceAdd, Nat.reduceMul, syd, sye, syf, syg, syh, reduceCtorEq, F81_L0, e5, e4, e1, e0, hlen, Int.ofNat_lt, hlt, decide_false, hqp hg6]
    refine call0 (rwrite_spec (hd.grow hg6) (n := 0) hsome (headB_length hl) (Has.own ho6) (by omega)) ?_
    rintro _ w7 ⟨rfl, G7, hd7, hx7⟩
    have hx7w : Ext (fun c => c = κ) G w G7 w7 := (Ext.grow hg6).trans hx7
    have hlog7 : RLogAt G7 κ w7 q size came (D.add (.wr 0 (headB ns))) := hlog.put (hqp (Keep.refl _ _)) hx7w rfl hd7
    obtain ⟨_, _, _, _, p', hq7, hd7'⟩ := id hlog7
    have hqp7 : w7.cell? ⟨q, 0, none⟩ = some (.pointer (some ⟨p', 0, none⟩)) := by rw [cell_block hq7]; rfl
    simp (maxSteps := 1000000) (disch := omega) only [↓sy1, sy2, sy3, readOK, sy5, sy6, Nat.reduceEqDiff, ↓reduceIte, sy7, sy8, sy9, sya, oneOf, syb, syc, Nat.reduceAdd, Nat.reduceMul, syd, sye, syf, syg, syh, reduceCtorEq, e0, hqp7]
    refine call0 (rflush_spec hd7' (by simp [Dsk.add]; omega)) ?_
    rintro _ w8 ⟨rfl, G8, hd8, hx8⟩
    simp (maxSteps := 1000000) (disch := omega) only [↓sy1, sy2, sy3, readOK, sy5, sy6, Nat.reduceEqDiff, ↓reduceIte, sy7, sy8, sy9, sya, oneOf, syb, syc, Nat.reduceAdd, Nat.reduceMul, syd, sye, syf, syg, syh, reduceCtorEq]
    exact R_out ⟨G8, hlog7.put hqp7 hx8 rfl hd8, hx7w.trans hx8⟩
theorem rhome_spec {G : Gh} {κ : Nat} {w : World} {q size came : Nat} {D : Dsk} {nv : Value} {ps : List (Nat × List UInt8)} (h : RLogAt G κ w q size came D) (hn : Held G κ w nv (ints (zs (ps.map (·.1))))) (hl : ps.length ≤ size) (hb : ∀ p ∈ ps, p.2.length = 512 ∧ size + 1 + p.1 < D.first.length)
    (himg : ∀ i (h : i < ps.length), D.image[1 + i]? = some ps[i].2) (ho : D.ops.length + ps.length < 800000) :
    Calls Tryz.prog 56 #[.pointer (some ⟨q, 0, none⟩), nv] w (Ret fun _ w' => ∃ G', RLogAt G' κ w' q size came (homed size D ps) ∧ Ext (fun c => c = κ) G w G' w') := by
  have hlen : ∀ w', lenF w' 0 nv = some (.int .i64 ps.length) := fun w' => by rw [Has.lenI hn.1]; simp
  apply enter56
  apply R_in
  simp (maxSteps := 1000000) (disch := omega) only [↓sy1, sy2, sy3, readOK, sy5, sy6, Nat.reduceEqDiff, ↓reduceIte, sy7, sy8, sy9, sya, oneOf, syb, syc, Nat.reduceAdd, Nat.reduceMul, syd, sye, syf, syg, syh, reduceCtorEq, F56]
  have hsz := h.2.2.1
  refine loop_rule (fun e w' => ∃ (i : Nat) (G' : Gh), i ≤ ps.length ∧ e 4 = .int .i64 i ∧ e 1 = nv ∧ e 0 = .pointer (some ⟨q, 0, none⟩) ∧ RLogAt G' κ w' q size came (adds D (homeOps size (ps.take i))) ∧ Ext (fun c => c = κ) G w G' w') (fun e _ => ps.length - (intOf (e 4)).toNat)
    ⟨0, G, by omega, by simp [upd, updO, ev], by simp [upd, updO, ev], by simp [upd, updO, ev], h, .refl _ _ _⟩ ?_
  rintro e w1 ⟨i, G1, hi, e4, e1, e0, h1, hx1⟩
  have hlog := h1
  obtain ⟨hκ, hs1, hs2, ho0, p, hq, hd⟩ := h1
  have hqp : ∀ {w'}, Grow w1 w' → w'.cell? ⟨q, 0, none⟩ = some (.pointer (some ⟨p, 0, none⟩)) ∧ w'.cell? ⟨q, 1, none⟩ = some (.int .i64 size) := fun hg => ⟨by rw [cell_block (hg.gheap hq)]; rfl, by rw [cell_block (hg.gheap hq)]; rfl⟩
  have hf : (adds D (homeOps size (ps.take i))).first = D.first := adds_first _ _
  have hops : (adds D (homeOps size (ps.take i))).ops.length ≤ D.ops.length + i := by
    rw [adds_ops]; simp [homeOps]; omega
  have hmost := hd.ok.most
  rw [hf] at hmost
  by_cases hlt : i < ps.length
  · simp (maxSteps := 1000000) (disch := omega) only [↓sy1, sy2, sy3, readOK, sy5, sy6, Nat.reduceEqDiff, ↓reduceIte, sy7, sy8, sy9, sya, oneOf, syb, syc, Nat.reduceAdd, Nat.reduceMul, syd, sye, syf, syg, syh, reduceCtorEq, F56_L0, e4, e1, e0, hlen, Int.ofNat_lt, hlt, decide_true, hqp (Keep.refl _ _)]
    rw [show (1 : Int) + (i : Int) = ((1 + i : Nat) : Int) from by omega]
    obtain ⟨hb1, hb2⟩ := hb ps[i] (List.getElem_mem hlt)
    refine call0 (rread_spec hd (n := 1 + i) (by rw [hf]; omega)) ?_
    rintro _ w2 ⟨u, rfl, hu, hg2⟩
    have hcur : (adds D (homeOps size (ps.take i))).image[1 + i]? = some ps[i].2 := by
      rw [image_home_other size (1 + i) _ _ (fun r hr => by omega)]; exact himg i hlt
    have hcur' : (adds D (homeOps size (ps.take i))).image[1 + i]'(by rw [Dsk.image_length, hf]; omega) = ps[i].2 := by
      rw [List.getElem?_eq_getElem (by rw [Dsk.image_length, hf]; omega)] at hcur; exact Option.some.inj hcur
    rw [hcur'] at hu
    simp (maxSteps := 1000000) (disch := omega) only [↓sy1, sy2, sy3, readOK, sy5, sy6, Nat.reduceEqDiff, ↓reduceIte, sy7, sy8, sy9, sya, oneOf, syb, syc, Nat.reduceAdd, Nat.reduceMul, syd, sye, syf, syg, syh, reduceCtorEq, e4, e1, e0]
    refine draw56_0 (fun _ => False) ?_
    have hgd : Grow w2 w2.drew := (Keep.refl _ _).drew
    have hg3 := hg2.trans hgd
    have hu3 := hu.grow hgd
    generalize w2.drew = w3 at hg3 hu3 ⊢
    obtain ⟨a, ha, hac, _⟩ := Has.getI (l := zs (ps.map (·.1))) ((hn.ext hx1).1.grow hg3) (i := i) (by simpa using hlt)
    have hnv : (zs (ps.map (·.1)))[i]'(by simpa using hlt) = ((ps[i].1 : Nat) : Int) := by simp
    rw [hnv] at hac
    simp (maxSteps := 1000000) (disch := omega) only [↓sy1, sy2, sy3, readOK, sy5, sy6, Nat.reduceEqDiff, ↓reduceIte, sy7, sy8, sy9, sya, oneOf, syb, syc, Nat.reduceAdd, Nat.reduceMul, syd, sye, syf, syg, syh, reduceCtorEq, PL56_0, e4, e1, e0, hqp hg3, ha, hac]
    rw [show (size : Int) + 1 + ((ps[i].1 : Nat) : Int) = ((size + 1 + ps[i].1 : Nat) : Int) from by omega]
    refine call0 (rwrite_spec (hd.grow hg3) (by rw [hf]; exact hb2) hb1 hu3 (by omega)) ?_
    rintro _ w4 ⟨rfl, G4, hd4, hx4⟩
    simp (maxSteps := 1000000) (disch := omega) only [↓sy1, sy2, sy3, readOK, sy5, sy6, Nat.reduceEqDiff, ↓reduceIte, sy7, sy8, sy9, sya, oneOf, syb, syc, Nat.reduceAdd, Nat.reduceMul, syd, sye, syf, syg, syh, reduceCtorEq, e4, e1, e0]
    have hx14 : Ext (fun c => c = κ) G1 w1 G4 w4 := (Ext.grow hg3).trans hx4
    have hstep : adds D (homeOps size (ps.take (i + 1))) = (adds D (homeOps size (ps.take i))).add (.wr (size + 1 + ps[i].1) ps[i].2) := by rw [homeOps_take size ps hlt, adds_snoc]
    refine R_out ⟨⟨i + 1, G4, by omega, rfl, by rw [hstep]; exact hlog.put (hqp (Keep.refl _ _)).1 hx14 rfl hd4, hx1.trans hx14⟩, ?_⟩
    simp only [intOf]; omega
  · have hie : i = ps.length := by omega
    subst hie
    rw [List.take_length] at hlog hd hops hf
    simp (maxSteps := 1000000) (disch := omega) only [↓sy1, sy2, sy3, readOK, sy5, sy6, Nat.reduceEqDiff, ↓reduceIte, sy7, sy8, sy9, sya, oneOf, syb, syc, Nat.reduceAdd, Nat.reduceMul, syd, sye, syf, syg, syh, reduceCtorEq, F56_L0, e4, e1, e0, hlen, Int.ofNat_lt, hlt, decide_false, hqp (Keep.refl _ _)]
    refine call0 (rflush_spec hd (by omega)) ?_
    rintro _ w2 ⟨rfl, G2, hd2, hx2⟩
    have hlog2 := hlog.put (E := (adds D (homeOps size ps)).add .fl) (hqp (Keep.refl _ _)).1 hx2 rfl hd2
    simp (maxSteps := 1000000) (disch := omega) only [↓sy1, sy2, sy3, readOK, sy5, sy6, Nat.reduceEqDiff, ↓reduceIte, sy7, sy8, sy9, sya, oneOf, syb, syc, Nat.reduceAdd, Nat.reduceMul, syd, sye, syf, syg, syh, reduceCtorEq, e0]
    refine call0 (rsetHead_spec (ns := []) hlog2 (Has.nil 1 w2) (by simp) (by simp [Dsk.add]; omega)) ?_
    rintro _ w3 ⟨G3, hlog3, hx3⟩
    simp (maxSteps := 1000000) (disch := omega) only [↓sy1, sy2, sy3, readOK, sy5, sy6, Nat.reduceEqDiff, ↓reduceIte, sy7, sy8, sy9, sya, oneOf, syb, syc, Nat.reduceAdd, Nat.reduceMul, syd, sye, syf, syg, syh, reduceCtorEq]
    exact R_out ⟨G3, hlog3, (hx1.trans hx2).trans hx3⟩
/-- What it tells. -/
theorem rpages_spec {G : Gh} {κ : Nat} {w : World} {q size came : Nat} {D : Dsk} (h : RLogAt G κ w q size came D) :
    Calls Tryz.prog 41 #[.pointer (some ⟨q, 0, none⟩)] w (Ret fun v w' => v = .int .i64 ((D.first.length - size - 1 : Nat) : Int) ∧ Grow w w') := by
  obtain ⟨p, hd, hc⟩ := h.cells
  have hs2 := h.2.2.1
  have hmost := hd.ok.most
  apply enter41
  apply R_in
  simp (maxSteps := 1000000) (disch := omega) only [↓sy1, sy2, sy3, readOK, sy5, sy6, Nat.reduceEqDiff, ↓reduceIte, sy7, sy8, sy9, sya, oneOf, syb, syc, Nat.reduceAdd, Nat.reduceMul, syd, sye, syf, syg, syh, reduceCtorEq, F41]
  refine draw41_0 (fun _ => False) ?_
  have hgd : Grow w w.drew := (Keep.refl _ _).drew
  generalize w.drew = w1 at hgd ⊢
  simp (maxSteps := 1000000) (disch := omega) only [↓sy1, sy2, sy3, readOK, sy5, sy6, Nat.reduceEqDiff, ↓reduceIte, sy7, sy8, sy9, sya, oneOf, syb, syc, Nat.reduceAdd, Nat.reduceMul, syd, sye, syf, syg, syh, reduceCtorEq, PL41_0, hc hgd]
  refine call0 (rsectors_spec (hd.grow hgd)) ?_
  rintro _ w2 ⟨rfl, rfl⟩
  simp (maxSteps := 1000000) (disch := omega) only [↓sy1, sy2, sy3, readOK, sy5, sy6, Nat.reduceEqDiff, ↓reduceIte, sy7, sy8, sy9, sya, oneOf, syb, syc, Nat.reduceAdd, Nat.reduceMul, syd, sye, syf, syg, syh, reduceCtorEq]
  refine ⟨Keep.refl _ _, ?_⟩
  exact R_out ⟨by congr 1; omega, hgd⟩
theorem rcapacity_spec {G : Gh} {κ : Nat} {w : World} {q size came : Nat} {D : Dsk} (h : RLogAt G κ w q size came D) :
    Calls Tryz.prog 44 #[.pointer (some ⟨q, 0, none⟩)] w (Ret fun v w' => v = .int .i64 ((min size 100 : Nat) : Int) ∧ w' = w) := by
  obtain ⟨p, hd, hc⟩ := h.cells
  apply enter44
  apply R_in
  by_cases hs : 100 < size
  · simp (maxSteps := 1000000) (disch := omega) only [↓sy1, sy2, sy3, readOK, sy5, sy6, Nat.reduceEqDiff, ↓reduceIte, sy7, sy8, sy9, sya, oneOf, syb, syc, Nat.reduceAdd, Nat.reduceMul, syd, sye, syf, syg, syh, reduceCtorEq, F44, hc (Keep.refl _ _), show ((100 : Int) < (size : Int)) from by omega, decide_true]
    exact R_out (by rw [show min size 100 = 100 from by omega]; first | exact ⟨rfl, trivial⟩ | rfl)
  · simp (maxSteps := 1000000) (disch := omega) only [↓sy1, sy2, sy3, readOK, sy5, sy6, Nat.reduceEqDiff, ↓reduceIte, sy7, sy8, sy9, sya, oneOf, syb, syc, Nat.reduceAdd, Nat.reduceMul, syd, sye, syf, syg, syh, reduceCtorEq, F44, hc (Keep.refl _ _), show ¬ ((100 : Int) < (size : Int)) from by omega, decide_false]
    exact R_out (by rw [show min size 100 = size from by omega])
theorem rldisk_spec {G : Gh} {κ : Nat} {w : World} {q size came : Nat} {D : Dsk} (κ' : Nat) (h : RLogAt G κ w q size came D) :
    Calls Tryz.prog 18 #[.pointer (some ⟨q, 0, none⟩)] w (Ret fun v w' => ∃ p G', v = .pointer (some ⟨p, 0, none⟩) ∧ w.heap.size ≤ p ∧ RefAt G' κ' w' p D ∧ Ext0 G w G' w') := by
  obtain ⟨p, hd, hc⟩ := h.cells
  apply enter18
  apply R_in
  simp (maxSteps := 1000000) (disch := omega) only [↓sy1, sy2, sy3, readOK, sy5, sy6, Nat.reduceEqDiff, ↓reduceIte, sy7, sy8, sy9, sya, oneOf, syb, syc, Nat.reduceAdd, Nat.reduceMul, syd, sye, syf, syg, syh, reduceCtorEq, F18, hc (Keep.refl _ _)]
  refine call0 (rfork_spec κ' hd) ?_
  rintro _ w1 ⟨p', G', rfl, hp, hd', hx⟩
  simp (maxSteps := 1000000) (disch := omega) only [↓sy1, sy2, sy3, readOK, sy5, sy6, Nat.reduceEqDiff, ↓reduceIte, sy7, sy8, sy9, sya, oneOf, syb, syc, Nat.reduceAdd, Nat.reduceMul, syd, sye, syf, syg, syh, reduceCtorEq]
  exact R_out ⟨p', G', rfl, hp, hd', hx⟩
theorem rlread_spec {G : Gh} {κ : Nat} {w : World} {q size came n : Nat} {D : Dsk} (h : RLogAt G κ w q size came D) (hn : n < D.first.length - size - 1) :
    Calls Tryz.prog 63 #[.pointer (some ⟨q, 0, none⟩), .int .i64 n] w (Ret fun v w' => ∃ u, v = .tuple #[u, .int .i64 0] ∧ HasB w' u (D.image[size + 1 + n]'(by rw [D.image_length]; omega)) ∧ Grow w w') := by
  obtain ⟨p, hd, hc⟩ := h.cells
  have hmost := hd.ok.most
  apply enter63
  apply R_in
  simp (maxSteps := 1000000) (disch := omega) only [↓sy1, sy2, sy3, readOK, sy5, sy6, Nat.reduceEqDiff, ↓reduceIte, sy7, sy8, sy9, sya, oneOf, syb, syc, Nat.reduceAdd, Nat.reduceMul, syd, sye, syf, syg, syh, reduceCtorEq, F63, show ¬ ((n : Int) < 0) from by omega, decide_false]
  refine call0 (rpages_spec h) ?_
  rintro _ w1 ⟨rfl, hg1⟩
  simp (maxSteps := 1000000) (disch := omega) only [↓sy1, sy2, sy3, readOK, sy5, sy6, Nat.reduceEqDiff, ↓reduceIte, sy7, sy8, sy9, sya, oneOf, syb, syc, Nat.reduceAdd, Nat.reduceMul, syd, sye, syf, syg, syh, reduceCtorEq, show ¬ (((D.first.length - size - 1 : Nat) : Int) ≤ (n : Int)) from by omega, decide_false]
  refine draw63_0 (fun _ => False) ?_
  have hgd : Grow w w1.drew := hg1.drew
  generalize w1.drew = w2 at hgd ⊢
  simp (maxSteps := 1000000) (disch := omega) only [↓sy1, sy2, sy3, readOK, sy5, sy6, Nat.reduceEqDiff, ↓reduceIte, sy7, sy8, sy9, sya, oneOf, syb, syc, Nat.reduceAdd, Nat.reduceMul, syd, sye, syf, syg, syh, reduceCtorEq, PL63_0, hc hgd]
  rw [show (size : Int) + 1 + (n : Int) = ((size + 1 + n : Nat) : Int) from by omega]
  refine call0 (rread_spec (hd.grow hgd) (n := size + 1 + n) (by omega)) ?_
  rintro _ w3 ⟨u, rfl, hu, hg3⟩
  simp (maxSteps := 1000000) (disch := omega) only [↓sy1, sy2, sy3, readOK, sy5, sy6, Nat.reduceEqDiff, ↓reduceIte, sy7, sy8, sy9, sya, oneOf, syb, syc, Nat.reduceAdd, Nat.reduceMul, syd, sye, syf, syg, syh, reduceCtorEq]
  exact R_out ⟨u, rfl, hu, hgd.trans hg3⟩
theorem rlread_bad {G : Gh} {κ : Nat} {w : World} {q size came : Nat} {n : Int} {D : Dsk} (h : RLogAt G κ w q size came D) (hn : n < 0 ∨ ((D.first.length - size - 1 : Nat) : Int) ≤ n) :
    Calls Tryz.prog 63 #[.pointer (some ⟨q, 0, none⟩), .int .i64 n] w (Ret fun v w' => v = .tuple #[.slice none 0 0, .int .i64 2] ∧ Grow w w') := by
  apply enter63
  apply R_in
  by_cases h0 : n < 0
  · simp (maxSteps := 1000000) (disch := omega) only [↓sy1, sy2, sy3, readOK, sy5, sy6, Nat.reduceEqDiff, ↓reduceIte, sy7, sy8, sy9, sya, oneOf, syb, syc, Nat.reduceAdd, Nat.reduceMul, syd, sye, syf, syg, syh, reduceCtorEq, F63, h0, decide_true]
    exact R_out (Keep.refl _ _)
  · simp (maxSteps := 1000000) (disch := omega) only [↓sy1, sy2, sy3, readOK, sy5, sy6, Nat.reduceEqDiff, ↓reduceIte, sy7, sy8, sy9, sya, oneOf, syb, syc, Nat.reduceAdd, Nat.reduceMul, syd, sye, syf, syg, syh, reduceCtorEq, F63, h0, decide_false]
    refine call0 (rpages_spec h) ?_
    rintro _ w1 ⟨rfl, hg1⟩
    simp (maxSteps := 1000000) (disch := omega) only [↓sy1, sy2, sy3, readOK, sy5, sy6, Nat.reduceEqDiff, ↓reduceIte, sy7, sy8, sy9, sya, oneOf, syb, syc, Nat.reduceAdd, Nat.reduceMul, syd, sye, syf, syg, syh, reduceCtorEq, show (((D.first.length - size - 1 : Nat) : Int) ≤ n) from by omega, decide_true]
    exact R_out hg1
end Go.Proofs.YtgmodahpcpepjaaGreat

/- The reference's Commit: the same answer, the same disk. -/
namespace Go.Proofs.YtgmodahpcpepjaaGreat
open Go
set_option linter.unusedSimpArgs false
open Go.RowKit (intOf)
/-- A part of a row. -/
theorem Has.slcToK {k : Nat} {w : World} {v : Value} {xs : List Value} (h : Has k w v xs) {m : Nat} (hm : m * k ≤ xs.length) (hk : 0 < k) :
    ∃ v', slcF k v none (some (.int .i64 m)) none = some v' ∧ Has k w v' (xs.take (m * k)) := by
  rcases h with ⟨b, o, n, c, rfl, h1, h2, h3⟩ | ⟨rfl, rfl⟩
  · have hmn : m ≤ n := Nat.le_of_mul_le_mul_right (h1 ▸ hm) hk
    refine ⟨.slice (some ⟨b, o, none⟩) m c, ?_, .inl ⟨b, o, m, c, rfl, by rw [List.length_take]; omega, by omega, fun j u hj => ?_⟩⟩
    · simp only [slcF, slcV, bndV]
      rw [if_pos ⟨by omega, by omega⟩]
      simp [add_lit]
    · rw [List.getElem?_take] at hj
      split at hj
      · exact h3 j u hj
      · cases hj
  · have hm0 : m = 0 := by
      rcases Nat.eq_zero_or_pos m with h | h
      · exact h
      · have := Nat.mul_pos h hk; simp at hm; omega
    subst hm0
    exact ⟨.slice none 0 0, by simp [slcF, slcV, bndV], by simpa using Has.nil k w⟩
theorem Has.slcFromK {k : Nat} {w : World} {v : Value} {xs : List Value} (h : Has k w v xs) {m : Nat} (hm : m * k ≤ xs.length) (hk : 0 < k) :
    ∃ v', slcF k v (some (.int .i64 m)) none none = some v' ∧ Has k w v' (xs.drop (m * k)) := by
  rcases h with ⟨b, o, n, c, rfl, h1, h2, h3⟩ | ⟨rfl, rfl⟩
  · have hmn : m ≤ n := Nat.le_of_mul_le_mul_right (h1 ▸ hm) hk
    have hr : slcF k (.slice (some ⟨b, o, none⟩) n c) (some (.int .i64 m)) none none = some (.slice (if c = m then some ⟨b, o, none⟩ else some ⟨b, o + m * k, none⟩) (n - m) (c - m)) := by
      simp only [slcF, slcV, bndV]
      simp only [Option.isSome_none, Bool.false_eq_true, if_false]
      rw [if_pos ⟨by omega, by omega⟩]
      simp [add_lit]
    refine ⟨_, hr, ?_⟩
    have hdl : (xs.drop (m * k)).length = (n - m) * k := by rw [List.length_drop, h1, Nat.sub_mul]
    by_cases hc : c = m
    · rw [if_pos hc]
      refine .inl ⟨b, o, n - m, c - m, rfl, hdl, by omega, fun j u hj => ?_⟩
      rw [List.drop_eq_nil_of_le (by rw [h1, show n = m from by omega]; exact Nat.le_refl _)] at hj; simp at hj
    · rw [if_neg hc]
      refine .inl ⟨b, o + m * k, n - m, c - m, rfl, hdl, by omega, fun j u hj => ?_⟩
      rw [List.getElem?_drop] at hj
      rw [show o + m * k + j = o + (m * k + j) from by omega]
      exact h3 _ u hj
  · have hm0 : m = 0 := by
      rcases Nat.eq_zero_or_pos m with h | h
      · exact h
      · have := Nat.mul_pos h hk; simp at hm; omega
    subst hm0
    exact ⟨.slice none 0 0, by simp [slcF, slcV, bndV], by simpa using Has.nil k w⟩
abbrev Qg := Pg × Value
/-- Pages with the values of their bytes, as cells. -/
def cellsQ (qs : List Qg) : List Value := qs.flatMap fun q => [.int .i64 q.1.1, q.2]
theorem cellsQ_append (a b : List Qg) : cellsQ (a ++ b) = cellsQ a ++ cellsQ b := by simp [cellsQ]
theorem cellsQ_length (qs : List Qg) : (cellsQ qs).length = 2 * qs.length := by
  induction qs with
  | nil => rfl
  | cons q qs ih => rw [show cellsQ (q :: qs) = .int .i64 q.1.1 :: q.2 :: cellsQ qs from rfl]; simp [ih]; omega
theorem cellsQ_get : ∀ (qs : List Qg) (i : Nat) (h : i < qs.length), (cellsQ qs)[2 * i]? = some (.int .i64 qs[i].1.1) ∧ (cellsQ qs)[2 * i + 1]? = some qs[i].2
  | q :: qs, 0, _ => ⟨rfl, rfl⟩
  | q :: qs, i + 1, h => by
    rw [show cellsQ (q :: qs) = .int .i64 q.1.1 :: q.2 :: cellsQ qs from rfl, show 2 * (i + 1) = 2 * i + 1 + 1 from by omega]
    simpa using cellsQ_get qs i (by simpa using h)
theorem cellsQ_take (qs : List Qg) (m : Nat) (h : m ≤ qs.length) : (cellsQ qs).take (m * 2) = cellsQ (qs.take m) := by
  have h1 : cellsQ qs = cellsQ (qs.take m) ++ cellsQ (qs.drop m) := by rw [← cellsQ_append, List.take_append_drop]
  rw [h1, List.take_left' (by rw [cellsQ_length, List.length_take]; omega)]
theorem cellsQ_drop (qs : List Qg) (m : Nat) (h : m ≤ qs.length) : (cellsQ qs).drop (m * 2) = cellsQ (qs.drop m) := by
  have h1 : cellsQ qs = cellsQ (qs.take m) ++ cellsQ (qs.drop m) := by rw [← cellsQ_append, List.take_append_drop]
  rw [h1, List.drop_left' (by rw [cellsQ_length, List.length_take]; omega)]
theorem toQ {R : Value → List UInt8 → Prop} : ∀ (ps : List Pg) (xs : List Value), xs.length = 2 * ps.length → (∀ i (h : i < ps.length), xs[2 * i]? = some (.int .i64 ps[i].1) ∧ ∃ u, xs[2 * i + 1]? = some u ∧ R u ps[i].2) →
    ∃ qs : List Qg, qs.map (·.1) = ps ∧ xs = cellsQ qs ∧ ∀ q ∈ qs, R q.2 q.1.2
  | [], xs, hl, _ => ⟨[], rfl, List.eq_nil_of_length_eq_zero hl, fun q hq => by simp at hq⟩
  | p :: ps, a :: b :: xs, hl, h => by
    obtain ⟨h1, u, h2, h3⟩ := h 0 (by simp)
    simp at h1 h2
    subst h1; subst h2
    obtain ⟨qs, h4, h5, h6⟩ := toQ ps xs (by simp at hl; omega) (fun i hi => by
      have := h (i + 1) (by simpa using hi)
      rw [show 2 * (i + 1) = 2 * i + 1 + 1 from by omega] at this
      simpa using this)
    refine ⟨(p, b) :: qs, by simp [h4], by rw [h5]; rfl, fun q hq => ?_⟩
    rcases List.mem_cons.1 hq with rfl | hq
    · exact h3
    · exact h6 q hq
  | p :: ps, [], hl, _ => absurd hl (by simp)
  | p :: ps, [a], hl, _ => absurd hl (by simp; omega)
/-- Numbers of pages rise. -/
def riseQ (qs : List Qg) : Prop := (qs.map (·.1.1)).Pairwise (· < ·)
theorem riseQ_get {qs : List Qg} (h : riseQ qs) {i j : Nat} (hij : i < j) (hj : j < qs.length) : (qs[i]'(by omega)).1.1 < qs[j].1.1 := by
  have := List.pairwise_iff_getElem.1 h i j (by simp; omega) (by simpa using hj) hij
  simpa using this
theorem riseQ_ins {qs : List Qg} {q : Qg} {m : Nat} (h : riseQ qs) (hm : m ≤ qs.length) (h1 : ∀ i (hi : i < qs.length), i < m → qs[i].1.1 < q.1.1) (h2 : ∀ i (hi : i < qs.length), m ≤ i → q.1.1 < qs[i].1.1) : riseQ (qs.take m ++ [q] ++ qs.drop m) := by
  have ht : riseQ (qs.take m) := by unfold riseQ; rw [List.map_take]; exact List.Pairwise.sublist (List.take_sublist ..) h
  have hd : riseQ (qs.drop m) := by unfold riseQ; rw [List.map_drop]; exact List.Pairwise.sublist (List.drop_sublist ..) h
  have ht1 : ∀ a ∈ (qs.take m).map (·.1.1), a < q.1.1 := fun a ha => by
    obtain ⟨r, hr, rfl⟩ := List.mem_map.1 ha
    obtain ⟨i, hi, rfl⟩ := List.getElem_of_mem hr
    rw [List.getElem_take]
    rw [List.length_take] at hi
    exact h1 i (by omega) (by omega)
  have hd1 : ∀ a ∈ (qs.drop m).map (·.1.1), q.1.1 < a := fun a ha => by
    obtain ⟨r, hr, rfl⟩ := List.mem_map.1 ha
    obtain ⟨i, hi, rfl⟩ := List.getElem_of_mem hr
    rw [List.getElem_drop]
    rw [List.length_drop] at hi
    exact h2 (m + i) (by omega) (by omega)
  unfold riseQ
  rw [List.map_append, List.map_append, List.pairwise_append, List.pairwise_append]
  refine ⟨⟨ht, by simp, fun a ha b hb => ?_⟩, hd, fun a ha b hb => ?_⟩
  · simp at hb; subst hb; exact ht1 a ha
  · rcases List.mem_append.1 ha with ha | ha
    · have := ht1 a ha; have := hd1 b hb; omega
    · simp at ha; subst ha; exact hd1 b hb
theorem ins_perm {α : Type} (l r : List α) (q : α) (m : Nat) (h : l.Perm r) : (l.take m ++ [q] ++ l.drop m).Perm (r ++ [q]) := by
  have h1 : (l.take m ++ [q] ++ l.drop m).Perm (l.take m ++ l.drop m ++ [q]) := by
    rw [List.append_assoc, List.append_assoc]
    exact List.Perm.append_left _ List.perm_append_comm
  rw [List.take_append_drop] at h1
  exact h1.trans (h.append_right _)
end Go.Proofs.YtgmodahpcpepjaaGreat
