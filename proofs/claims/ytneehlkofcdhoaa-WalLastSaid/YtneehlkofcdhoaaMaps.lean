/- Rules at maps: a range, an update, clear; and at calls through an interface or a function value. -/
import Derived.Test.YtneehlkofcdhoaaDsk
import Derived.Laws.IdiomRangeMap
import Derived.Laws.BytesString
namespace Go.Proofs.Ytneehlkofcdhoaa
open Go
set_option linter.unusedSimpArgs false

section
variable {P : Program} {k : Kont} {e : Env} {w : World} {l : List GOp} {d : Option Nat}
theorem MapOk.nodup {es : List MapEntry} {clk : Nat} (h : MapOk es clk) : (es.map (·.born)).Nodup := by
  unfold List.Nodup; rw [List.pairwise_map]; exact h.born
theorem setObj_run {w : World} {r : Nat} {o : Obj} (o' : Obj) (hr : w.heap[r]? = some o) (ho : ∀ c t f, o ≠ .cells c t f) : ∃ w', (setObj r o').run P w = .ok () w' ∧ Keep (fun b => b = r) w w' ∧ w'.heap[r]? = some o' ∧ w'.heap.size = w.heap.size := by
  have hlt : r < w.heap.size := (Array.getElem?_eq_some_iff.1 hr).1
  refine ⟨{ w with heap := w.heap.setIfInBounds r o' }, by cases o <;> first | (exact absurd rfl (ho _ _ _)) | simp [setObj, Sem.run, hr], ⟨rfl, rfl, rfl, by simp, fun b hb hn => ?_⟩, by simp [hlt], by simp⟩
  simp [Array.getElem?_setIfInBounds, Ne.symm hn]
theorem range_rule {x : Operand} {t kt et ty : TypeId} {m clk : Nat} {es : Array MapEntry} (hx : ev e x = .map (some m)) (ht : P.underlying t = some (.map kt et)) (hm : w.heap[m]? = some (.map es clk))
    (h : R (symOps P l k (updO e d (.pointer (some ⟨w.heap.size, 0, none⟩))) (w.alloc (.mapIter (some m) clk #[] clk)))) : R (symOps P (⟨d, .hard (H (.range t x) ty), none⟩ :: l) k e w) :=
  hard_rule (by simp [execOp, H, hx, run_range_map w t kt et m es clk ht hm]) h
theorem next_rule {x : Operand} {ty : TypeId} {r m clk : Nat} {es : Array MapEntry} {seen : List Nat} (hx : ev e x = .pointer (some ⟨r, 0, none⟩)) (hr : w.heap[r]? = some (.mapIter (some m) clk seen.toArray clk)) (hm : w.heap[m]? = some (.map es clk)) (hok : MapOk es.toList clk)
    (hend : (∀ y ∈ es.toList, y.born ∈ seen) → R (symOps P l k (updO e d (.tuple #[.bool false])) w))
    (hone : ∀ y ∈ es.toList, y.born ∉ seen → ∀ w', Keep (fun b => b = r) w w' → w'.heap[r]? = some (.mapIter (some m) clk (seen ++ [y.born]).toArray clk) → R (symOps P l k (updO e d (.tuple #[.bool true, y.key, y.val])) w')) :
    R (symOps P (⟨d, .hard (H (.next x false) ty), none⟩ :: l) k e w) := by
  have key : ((∀ y ∈ es.toList, y.born ∈ seen) ∧ (Instr.next (.pointer (some ⟨r, 0, none⟩)) false ty).run P w = .ok (.tuple #[.bool false]) w) ∨
      ∃ y ∈ es.toList, y.born ∉ seen ∧ ∃ w', Keep (fun b => b = r) w w' ∧ w'.heap[r]? = some (.mapIter (some m) clk (seen ++ [y.born]).toArray clk) ∧ (Instr.next (.pointer (some ⟨r, 0, none⟩)) false ty).run P w = .ok (.tuple #[.bool true, y.key, y.val]) w' := by
    have ht := next_test_false seen.toArray es clk clk (fun y hy => hok.clk y hy) (Nat.le_refl _)
    simp only [Instr.next, getObj, Sem.run_bind, Sem.run, hr, hm, Result.andThen, ht, Bool.false_eq_true, if_false]
    have hL : ∀ y, y ∈ Array.filter (fun e => !seen.toArray.contains e.born) es ↔ y ∈ es.toList ∧ y.born ∉ seen := by intro y; simp
    generalize Array.filter (fun e => !seen.toArray.contains e.born) es = L at hL ⊢
    have hmem : ∀ y ∈ L, y.born < clk := fun y hy => hok.clk y ((hL y).1 hy).1
    have e1 : L.filter (fun x => decide (x.born < clk)) = L := Array.filter_eq_self.2 (fun x hx => by simpa using hmem x hx)
    have e2 : L.filter (fun x => decide (x.born ≥ clk)) = #[] := by
      rw [Array.filter_eq_empty_iff]; intro x hx; have := hmem x hx; simp; omega
    simp only [e1, e2, Array.append_empty]
    by_cases h0 : L.size = 0
    · left
      have hL0 : L = #[] := Array.eq_empty_of_size_eq_zero h0
      subst hL0
      refine ⟨fun y hy => Classical.byContradiction fun hn => by simpa using (hL y).2 ⟨hy, hn⟩, ?_⟩
      simp [choose, Sem.run, Question.forced]
    · right
      have hne : L.isEmpty = false := by simp [Array.isEmpty, h0]
      simp only [hne, Bool.false_eq_true, if_false, Array.empty_append, Array.size_map]
      have hch : ∃ (j : Nat) (w1 : World), j < L.size ∧ Keep (fun b => b = r) w w1 ∧ w1.heap = w.heap ∧ (choose (Question.mapNext L.size)).run P w = .ok j w1 := by
        by_cases hf : L.size ≤ 1
        · exact ⟨0, w, by omega, Keep.refl _ _, rfl, by simp [choose, Sem.run, Question.forced, hf]⟩
        · exact ⟨_, w.drew, Nat.mod_lt _ (by omega), (Keep.refl _ _).drew, rfl, by
            simp only [choose, Sem.run, Question.forced, decide_eq_true_eq, hf, if_false, Question.cut]
            rfl⟩
      obtain ⟨j, w1, hj, hal, hh, hrun⟩ := hch
      obtain ⟨w2, hs, hk, hr2, _⟩ := setObj_run (P := P) (.mapIter (some m) clk (seen ++ [L[j].born]).toArray clk) (show w1.heap[r]? = _ by rw [hh]; exact hr) (by simp)
      have hin := (hL L[j]).1 (by simp)
      refine ⟨L[j], hin.1, hin.2, w2, hal.trans hk, hr2, ?_⟩
      have hpush : seen.toArray.push L[j].born = (seen ++ [L[j].born]).toArray := by simp
      simp only [hrun, Array.getElem?_map, Array.getElem?_eq_getElem hj, Option.map_some, Sem.run_bind, hpush, hs, Result.andThen]
      rfl
  rcases key with ⟨h1, h2⟩ | ⟨y, hy, hn, w', hk, hr', h2⟩
  · exact hard_rule (by simp only [execOp, H, hx, Sem.run_bind, h2, Result.andThen_ok]; rfl) (hend h1)
  · exact hard_rule (by simp only [execOp, H, hx, Sem.run_bind, h2, Result.andThen_ok]; rfl) (hone y hy hn w' hk hr')
theorem entry_rule {x : Operand} {ty : TypeId} {r m clk : Nat} {es : Array MapEntry} {seen : List Nat} {y : MapEntry} (hx : ev e x = .pointer (some ⟨r, 0, none⟩)) (hr : w.heap[r]? = some (.mapIter (some m) clk (seen ++ [y.born]).toArray clk)) (hm : w.heap[m]? = some (.map es clk)) (hok : MapOk es.toList clk) (hy : y ∈ es.toList)
    (h : R (symOps P l k (updO e d (.tuple #[y.key, y.val])) w)) : R (symOps P (⟨d, .hard (H (.entry x) ty), none⟩ :: l) k e w) := by
  have hf : es.find? (·.born == y.born) = some y := by rw [← Array.find?_toList]; exact find_born y es.toList hok.nodup hy
  refine hard_rule ?_ h
  simp [execOp, H, hx, Instr.entry, getObj, Sem.run, hr, hm, Result.andThen, hf]

/-- A map's keys are of this kind of integer. -/
def IntKeyed (kk : IntKind) (es : List MapEntry) : Prop := ∀ y ∈ es, ∃ n, y.key = .int kk n
theorem findNow_i {kk kd : IntKind} {n : Int} : ∀ {es : List MapEntry} {i : Nat}, IntKeyed kk es →
    ((∀ y ∈ es, y.key ≠ .int kk n) ∧ Instr.findNow (.int kd) (.int kk n) es i = some none) ∨ ∃ j y, es[j]? = some y ∧ y.key = .int kk n ∧ Instr.findNow (.int kd) (.int kk n) es i = some (some (i + j, y.val))
  | [], _, _ => .inl ⟨by simp, rfl⟩
  | y :: es, i, h => by
    obtain ⟨m, hm⟩ := h y (by simp)
    by_cases hn : n = m
    · subst hn
      exact .inr ⟨0, y, rfl, hm, by simp [Instr.findNow, Instr.sameNow, hm]⟩
    · have hf : Instr.findNow (.int kd) (.int kk n) (y :: es) i = Instr.findNow (.int kd) (.int kk n) es (i + 1) := by
        have hb : (n == m) = false := by simpa using hn
        simp [Instr.findNow, Instr.sameNow, hm, hb]
      rw [hf]
      rcases findNow_i (kd := kd) (n := n) (es := es) (i := i + 1) (fun z hz => h z (by simp [hz])) with ⟨h1, h2⟩ | ⟨j, z, h1, h2, h3⟩
      · refine .inl ⟨fun z hz => ?_, h2⟩
        rcases List.mem_cons.1 hz with rfl | hz
        · rw [hm]; intro hc; cases hc; exact hn rfl
        · exact h1 z hz
      · exact .inr ⟨j + 1, z, by simpa using h1, h2, by rw [h3]; congr 3; omega⟩
theorem check_int {kt : TypeId} {kk kd : IntKind} (hkt : P.underlying kt = some (.int kd)) (f : Nat) (n : Int) (w0 : World) : (Instr.checkKey false (f + 1) kt (.int kk n)).run P w0 = .ok () w0 := by simp [Instr.checkKey, run_underlying hkt]
theorem sameBits_i {kk : IntKind} {n : Int} : ∀ f, Instr.sameBits f (.int kk n) (.int kk n) = true := by intro f; cases f <;> simp [Instr.sameBits]
/-- An update: the entry is there, or it is new. -/
theorem put_rule {xm xk xv : Operand} {t kt et ty : TypeId} {kk kd : IntKind} {m clk : Nat} {n : Int} {v : Value} {es : Array MapEntry} (hxm : ev e xm = .map (some m)) (hxk : ev e xk = .int kk n) (hxv : ev e xv = v)
    (ht : P.underlying t = some (.map kt et)) (hkt : P.underlying kt = some (.int kd)) (hm : w.heap[m]? = some (.map es clk)) (hki : IntKeyed kk es.toList)
    (hnew : (∀ y ∈ es.toList, y.key ≠ .int kk n) → ∀ w', Keep (fun b => b = m) w w' → w'.heap[m]? = some (.map (es.push ⟨.int kk n, v, clk⟩) (clk + 1)) → R (symOps P l k (updO e d undef) w'))
    (hold : ∀ j y, es.toList[j]? = some y → y.key = .int kk n → ∀ w', Keep (fun b => b = m) w w' → w'.heap[m]? = some (.map (es.setIfInBounds j { y with val := v }) clk) → R (symOps P l k (updO e d undef) w')) :
    R (symOps P (⟨d, .hard (H (.mapUpdate t xm xk xv) ty), none⟩ :: l) k e w) := by
  have go : ∀ w', (Instr.mapUpdate t (.map (some m)) (.int kk n) v).run P w = .ok () w' → R (symOps P l k (updO e d undef) w') → R (symOps P (⟨d, .hard (H (.mapUpdate t xm xk xv) ty), none⟩ :: l) k e w) := fun w' hr h => by
    refine Or.inl ?_
    have : (execOp (ev e) (H (.mapUpdate t xm xk xv) ty)).run P w = .ok .skip w' := by simp only [execOp, H, hxm, hxk, hxv, Sem.run_bind, hr, Result.andThen_ok]; rfl
    rw [this]; exact h
  have hchk : ∀ w0 : World, (Instr.checkKey false 10000 kt (.int kk n)).run P w0 = .ok () w0 := fun w0 => check_int hkt 9999 n w0
  rcases findNow_i (kd := kd) (n := n) (i := 0) hki with ⟨h1, h2⟩ | ⟨j, y, h1, h2, h3⟩
  · obtain ⟨w', hs, hk, hm', _⟩ := setObj_run (P := P) (.map (es.push ⟨.int kk n, v, clk⟩) (clk + 1)) hm (by simp)
    refine go w' ?_ (hnew h1 w' hk hm')
    simp [Instr.mapUpdate, run_underlying ht, MapKept.run_getObj_map hm, hchk, Instr.findKey, run_underlying hkt, h2, hs]
  · have hj : j < es.size := by have := (List.getElem?_eq_some_iff.1 h1).1; simpa using this
    have hjy : es[j] = y := by have := (List.getElem?_eq_some_iff.1 h1).2; simpa using this
    obtain ⟨w', hs, hk, hm', _⟩ := setObj_run (P := P) (.map (es.setIfInBounds j { y with val := v }) clk) hm (by simp)
    refine go w' ?_ (hold j y h1 h2 w' hk hm')
    rw [h2] at hs
    have hmod : (es.modify j fun e => { key := .int kk n, val := v, born := e.born }) = es.setIfInBounds j { key := .int kk n, val := v, born := y.born } := by
      apply Array.ext
      · simp
      · intro i hi1 hi2
        simp only [Array.size_modify] at hi1
        simp only [Array.getElem_modify, Array.getElem_setIfInBounds hi1]
        by_cases hij : j = i
        · subst hij; simp [hjy, ← h2]
        · simp [hij]
    simp [Instr.mapUpdate, run_underlying ht, MapKept.run_getObj_map hm, hchk, Instr.findKey, run_underlying hkt, h3, Instr.keyThatStays, Array.getElem?_eq_getElem hj, hjy, h2, sameBits_i, hmod, hs]
theorem clear_rule {x : Operand} {t kt et ty : TypeId} {m clk : Nat} {es : Array MapEntry} (hx : ev e x = .map (some m)) (ht : P.underlying t = some (.map kt et)) (hm : w.heap[m]? = some (.map es clk))
    (h : ∀ w', Keep (fun b => b = m) w w' → w'.heap[m]? = some (.map #[] clk) → R (symOps P l k (updO e d (.tuple #[])) w')) :
    R (symOps P (⟨d, .hard (H (.call { callee := .builtin .clear, args := #[x], argTypes := #[t] }) ty), none⟩ :: l) k e w) := by
  obtain ⟨w', hs, hk, hm', _⟩ := setObj_run (P := P) (.map #[] clk) hm (by simp)
  exact hard_rule (run_builtin (vs := [.map (some m)]) (by simp [hx]) (fun cs => by simp [builtin, Builtin.clear_, run_underlying ht, MapKept.run_getObj_map hm, hs])) (h w' hk hm')

/-- A method that the type itself has, by value. -/
def methFn (P : Program) (t : TypeId) (name : String) : Option FuncId :=
  match P.info? t with
  | some i => match i.methods.find? (·.name == name) with
    | some m => match m.path.toList, m.func, P.underlying t with
      | [], some (f, false), some d => match d with | .pointer _ => none | _ => if callable P f then some f else none
      | _, _, _ => none
    | none => none
  | none => none
theorem methFn_spec {t : TypeId} {name : String} {f : FuncId} (h : methFn P t name = some f) : callable P f = true ∧ ∃ i m dd, P.info? t = some i ∧ i.methods.find? (·.name == name) = some m ∧ m.path.toList = [] ∧ m.func = some (f, false) ∧ P.underlying t = some dd ∧ ∀ q, dd ≠ .pointer q := by
  unfold methFn at h
  split at h
  · rename_i i hi
    split at h
    · rename_i m hm
      split at h
      · rename_i f' dd hp hf hd
        split at h
        · cases h
        · rename_i hnp
          split at h
          · rename_i hc; cases h; exact ⟨hc, i, m, dd, hi, hm, hp, hf, hd, hnp⟩
          · cases h
      · cases h
    · cases h
  · cases h
theorem run_method {t : TypeId} {name : String} {f : FuncId} (h : methFn P t name = some f) (n : Nat) (u : Value) (w : World) : (method (n + 1) t u name).run P w = .ok (f, u) w := by
  obtain ⟨_, i, m, dd, hi, hm, hp, hf, hd, hnp⟩ := methFn_spec h
  have hr : ∀ o, (receiverAt t (.val u) false o).run P w = .ok u w := fun o => by
    cases dd with
    | pointer q => exact absurd rfl (hnp q)
    | _ => simp [receiverAt, run_underlying hd, Place.get]
  simp [method, typeInfo, hi, hm, hp, follow, hf, hr]
theorem nilM_ok {t : TypeId} {name : String} {f : FuncId} (h : methFn P t name = some f) (u : Value) : nilMOK P t u name := by
  obtain ⟨_, i, m, dd, hi, hm, hp, hf, hd, hnp⟩ := methFn_spec h
  have : ∀ (n : Nat) w, (nilAhead (n + 1) t u name).run P w = .ok (some false) w := by
    intro n w
    cases dd with
    | pointer q => exact absurd rfl (hnp q)
    | _ => simp [nilAhead, typeInfo, hi, hm, hp, followBlind, hf, run_underlying hd]
  exact fun w => this (P.types.size + 99) w
theorem run_callFunc {f : FuncId} {args : Array Value} (hc : callable P f = true) : (callFunc f args).run P w = .ok (.enter f args) w := by
  unfold callable at hc
  cases hf : P.funcs[f]? with
  | none => simp [hf] at hc
  | some fn =>
    simp only [hf, Bool.and_eq_true, Bool.not_eq_true'] at hc
    have hn : ¬ ((fn.name == "runtime.NumGoroutine") = true) := by rw [hc.1]; simp
    have hb : ¬ (fn.body.isNone = true) := by cases hb : fn.body <;> simp [hb] at hc ⊢
    simp only [callFunc, Sem.run_bind, run_program, Result.andThen_ok, hf, hn, hb, if_false, Bool.false_eq_true]
    simp
theorem enter_rule {o : Oper} {f : FuncId} {vs : List Value} {Φ : Value → World → Prop} (hr : (execOp (ev e) o).run P w = .ok (.enter f vs.toArray) w) (hc : Calls P f vs.toArray w (Ret Φ))
    (h : ∀ v w', Φ v w' → R (symOps P l k (updO e d v) w')) : R (symOps P (⟨d, .hard o, none⟩ :: l) k e w) := by
  refine Or.inl ?_
  rw [hr]
  exact call0 (l := l) (k := k) (d := d) (e := e) hc h
/-- A call through an interface. -/
theorem invoke_rule {x : Operand} {args : Array Operand} {ts : Array TypeId} {ty t : TypeId} {name : String} {f : FuncId} {u : Value} {vs : List Value} {Φ : Value → World → Prop} (hf : methFn P t name = some f) (hx : ev e x = .iface t u) (hv : args.toList.map (ev e) = vs)
    (hc : Calls P f (u :: vs).toArray w (Ret Φ)) (h : ∀ v w', Φ v w' → R (symOps P l k (updO e d v) w')) :
    R (symOps P (⟨d, .hard (H (.call { callee := .invoke x name, args := args, argTypes := ts }) ty), none⟩ :: l) k e w) := by
  refine enter_rule ?_ hc h
  subst hv
  have hm := run_method hf (P.types.size + 99) u w
  rw [show P.types.size + 99 + 1 = P.types.size + Made.depth from rfl] at hm
  have hargs : args.map (ev e) = (args.toList.map (ev e)).toArray := by rw [← Array.toList_map, Array.toArray_toList]
  simp only [execOp, H, resolve, hx, Sem.run_bind, Sem.run_pure, Result.andThen_ok, invoke, callMethod, run_program, hm]
  simp [callMethod, hm, run_callFunc (methFn_spec hf).1, hargs, List.take_of_length_le]
/-- A call of a function value. -/
theorem fval_rule {x : Operand} {args : Array Operand} {ts : Array TypeId} {ty : TypeId} {f : FuncId} {vs : List Value} {Φ : Value → World → Prop} (hf : callable P f = true) (hx : ev e x = .func (.func f) #[] #[]) (hv : args.toList.map (ev e) = vs)
    (hc : Calls P f vs.toArray w (Ret Φ)) (h : ∀ v w', Φ v w' → R (symOps P l k (updO e d v) w')) :
    R (symOps P (⟨d, .hard (H (.call { callee := .value x, args := args, argTypes := ts }) ty), none⟩ :: l) k e w) := by
  refine enter_rule ?_ hc h
  subst hv
  have hargs : args.map (ev e) = (args.toList.map (ev e)).toArray := by rw [← Array.toList_map, Array.toArray_toList]
  simp only [execOp, H, resolve, hx, Deferred.ofValue, Sem.run_bind, Sem.run_pure, Result.andThen_ok, invoke]
  simp [run_callFunc hf, hargs]
end

/-- A key among entries whose keys are apart. -/
theorem findInt_eq {kk : IntKind} {n : Int} : ∀ {es : List MapEntry} {y : MapEntry}, IntKeyed kk es → (es.Pairwise fun a b => a.key ≠ b.key) → y ∈ es → y.key = .int kk n → findInt kk n es = some y.val
  | x :: es, y, hi, hp, hy, hk => by
    obtain ⟨m, hm⟩ := hi x (by simp)
    by_cases hn : n = m
    · subst hn
      rcases List.mem_cons.1 hy with rfl | hy
      · simp [findInt, hm]
      · exact absurd (hm.trans hk.symm) ((List.pairwise_cons.1 hp).1 y hy)
    · rcases List.mem_cons.1 hy with rfl | hy
      · rw [hm] at hk; cases hk; exact absurd rfl hn
      · simp only [findInt, hm, if_neg hn]
        exact findInt_eq (fun z hz => hi z (by simp [hz])) (List.pairwise_cons.1 hp).2 hy hk
theorem findInt_none {kk : IntKind} {n : Int} : ∀ {es : List MapEntry}, IntKeyed kk es → (∀ y ∈ es, y.key ≠ .int kk n) → findInt kk n es = none
  | [], _, _ => rfl
  | x :: es, hi, h => by
    obtain ⟨m, hm⟩ := hi x (by simp)
    have hn : n ≠ m := fun hc => h x (by simp) (by rw [hm, hc])
    simp only [findInt, hm, if_neg hn]
    exact findInt_none (fun z hz => hi z (by simp [hz])) (fun y hy => h y (by simp [hy]))
theorem intKeyed_ok {kk : IntKind} {es : List MapEntry} (h : IntKeyed kk es) : intKeys kk es = true := by
  simp only [intKeys, List.all_eq_true]
  intro y hy
  obtain ⟨n, hn⟩ := h y hy
  simp [hn]
theorem lkp_eq {w : World} {z v : Value} {m clk : Nat} {kk : IntKind} {n : Int} {es : Array MapEntry} (hm : w.heap[m]? = some (.map es clk)) (hi : IntKeyed kk es.toList) (hf : findInt kk n es.toList = some v) : lkpV w z false (.map (some m)) (.int kk n) = some v := by
  simp [lkpV, hm, intKeyed_ok hi, hf]
theorem lkp_none {w : World} {z : Value} {m clk : Nat} {kk : IntKind} {n : Int} {es : Array MapEntry} (hm : w.heap[m]? = some (.map es clk)) (hi : IntKeyed kk es.toList) (hf : findInt kk n es.toList = none) : lkpV w z false (.map (some m)) (.int kk n) = some z := by
  simp [lkpV, hm, intKeyed_ok hi, hf]
end Go.Proofs.Ytneehlkofcdhoaa
