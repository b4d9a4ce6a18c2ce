/- The equations by which the plain reading is carried out. 'R' marks what is to be carried out now. -/
import Derived.Test.YtneehlkofcdhoaaSym
namespace Go.Proofs.Ytneehlkofcdhoaa
open Go
def R (p : Prop) : Prop := p
theorem R_in {p : Prop} (h : R p) : p := h
theorem R_out {p : Prop} (h : p) : R p := h
def pickF (c x y : Value) : Option Value := match c with | .bool b => some (if b = true then x else y) | _ => none
def ldF (w : World) (v : Value) : Option Value := match v with | .pointer (some a) => w.cell? a | _ => none
def ldnF (w : World) (m : Nat) (v : Value) : Option Value := match v with | .pointer (some a) => (loadN w a 0 m).map (fun u => .agg u.toArray) | _ => none
def stF (w : World) (v u : Value) : Option (Value × World) := match v with | .pointer (some a) => (if isCell u && (w.cell? a).isSome && !w.frozen? a then some (undef, w.setCell a u) else none) | _ => none
def stnF (w : World) (m : Nat) (v u : Value) : Option (Value × World) := match v with | .pointer (some a) => (if u.cells.size = m then (storeN w a 0 u.cells.toList).map (fun w => (undef, w)) else none) | _ => none
def beqF (neg : Bool) (v u : Value) : Option Value := match v, u with | .bool a, .bool b => some (.bool (if neg then !(a == b) else a == b)) | _, _ => none
def eqnF (kind : Nat) (neg : Bool) (v : Value) : Option Value := (nilV kind v).map fun b => .bool (if neg then !b else b)
def unF (op : UnOp) (v : Value) : Option Value := match op, v with | .not, .bool b => some (.bool !b) | .neg, .int k n => some (.int k (k.wrap (0 - n))) | _, _ => none
def faF (off : Nat) (v : Value) : Option Value := match v with | .pointer (some a) => some (.pointer (some (a.add off))) | _ => none
def fldF (off m : Nat) (agg : Bool) (v : Value) : Option Value := match v with | .agg cs => (if agg then some (.agg (cs.extract off (off + m))) else cs[off]?) | _ => none
def iaF (size : Nat) (v u : Value) : Option Value := match v, u with | .slice (some a) len _, .int _ i => (if 0 ≤ i ∧ i < (len : Int) then some (.pointer (some (a.add (i.toNat * size)))) else none) | _, _ => none
def iaaF (len size : Nat) (v u : Value) : Option Value := match v, u with | .pointer (some a), .int _ i => (if 0 ≤ i ∧ i < (len : Int) then some (.pointer (some (a.add (i.toNat * size)))) else none) | _, _ => none
def idxF (len size : Nat) (agg : Bool) (v u : Value) : Option Value := match v, u with | .agg cs, .int _ i => (if 0 ≤ i ∧ i < (len : Int) then (if agg then some (.agg (cs.extract (i.toNat * size) (i.toNat * size + size))) else cs[i.toNat * size]?) else none) | _, _ => none
def sidxF (v u : Value) : Option Value := match v, u with | .string s, .int _ i => (if 0 ≤ i then s[i.toNat]?.map (fun b => .int .u8 b.toNat) else none) | _, _ => none
def extF (i : Nat) (v : Value) : Option Value := match v with | .tuple vs => vs[i]? | _ => none
def boxF (w : World) (t : TypeId) (v : Value) : Option (Value × World) := some (.pointer (some ⟨w.heap.size, 0, none⟩), w.alloc (.cells v.cells t))
def bslF (w : World) (t : TypeId) (len : Nat) (o : Option (Array Value)) : Option (Value × World) := o.map fun cs => (.slice (some ⟨w.heap.size, 0, none⟩) len len, w.alloc (.cells cs t))
def lenF (w : World) (kind : Nat) (v : Value) : Option Value := match kind, v with
  | 0, .slice _ n _ => some (.int .i64 n)
  | 1, .string s => some (.int .i64 s.size)
  | 2, .map none => some (.int .i64 0)
  | 2, .map (some r) => match w.heap[r]? with | some (.map es _) => some (.int .i64 es.size) | _ => none
  | _, _ => none
def slcF (size : Nat) (v : Value) (lo hi mx : Option Value) : Option Value := match v with | .slice a len cap => slcV size a len cap lo hi mx | _ => none
def slcaF (m size : Nat) (v : Value) (lo hi mx : Option Value) : Option Value := match v with | .pointer (some a) => slcV size (some a) m m lo hi mx | _ => none
def convF (kk : IntKind) (v : Value) : Option Value := match v with | .int _ n => some (.int kk (kk.wrap n)) | _ => none
def taF (t : TypeId) (z : Value) (ok : Bool) (v : Value) : Option Value := match v with | .iface t' u => (if t' = t then some (if ok then .tuple #[u, .bool true] else u) else if ok then some (.tuple #[z, .bool false]) else none) | _ => none
def v1 (o : Option Value) (K : Value → World → Prop) (w : World) : Prop := match o with | some v => K v w | none => False
def v2 (o : Option (Value × World)) (K : Value → World → Prop) : Prop := match o with | some (v, w) => K v w | none => False
/-- A value (and a world), and what follows. -/
def val1 (o : Option Value) (P : Program) (d : Option Nat) (l : List GOp) (k : Kont) (e : Env) (w : World) : Prop := match o with | some v => symOps P l k (updO e d v) w | none => False
def val2 (o : Option (Value × World)) (P : Program) (d : Option Nat) (l : List GOp) (k : Kont) (e : Env) : Prop := match o with | some (v, w) => symOps P l k (updO e d v) w | none => False
def callV (P : Program) (f : FuncId) (vs : List Value) (d : Option Nat) (l : List GOp) (k : Kont) (e : Env) (w : World) : Prop := Calls P f vs.toArray w (Out (fun v w' => symOps P l k (updO e d v) w') k.p)
def condS (v : Value) (n : Nat) (P : Program) (x y : SCode) (k : Kont) (e : Env) (w : World) : Prop := match v with | .bool true => symS n P x k e w | .bool false => symS n P y k e w | _ => False
def gOps (v : Value) (want : Bool) (P : Program) (d : Option Nat) (s : SOp) (l : List GOp) (k : Kont) (e : Env) (w : World) : Prop :=
  match v with | .bool b => if b = want then symOps P (⟨d, s, none⟩ :: l) k e w else symOps P l k (updO e d undef) w | _ => symOps P l k (updO e d undef) w
section
variable {n : Nat} {P : Program} {k : Kont} {e : Env} {w : World} {K : Value → World → Prop} {l : List GOp} {d : Option Nat}
theorem val1_eq {o : Option Value} : val1 o P d l k e w = v1 o (fun v w => symOps P l k (updO e d v) w) w := propext ⟨fun h => h, fun h => h⟩
theorem val2_eq {o : Option (Value × World)} : val2 o P d l k e = v2 o (fun v w => symOps P l k (updO e d v) w) := propext ⟨fun h => h, fun h => h⟩
theorem val1_some {v : Value} : val1 (some v) P d l k e w = R (symOps P l k (updO e d v) w) := propext ⟨fun h => h, fun h => h⟩
theorem val2_some {v : Value} : val2 (some (v, w)) P d l k e = R (symOps P l k (updO e d v) w) := propext ⟨fun h => h, fun h => h⟩
theorem optK_as {o : Option Value} : optK o (fun v => K v w) = v1 o K w := by cases o <;> rfl
theorem optK_map {α : Type} {o : Option α} {f : α → Value} : optK o (fun v => K (f v) w) = v1 (o.map f) K w := by cases o <;> rfl
theorem optK_map2 {o : Option World} : optK o (fun w' => K undef w') = v2 (o.map (fun w => (undef, w))) K := by cases o <;> rfl
theorem R_skip : R (symS n P .skip k e w) = R (k.n e w) := propext ⟨fun h => h, fun h => h⟩
theorem R_ops : R (symS n P (.ops l) k e w) = R (symOps P l k e w) := propext ⟨fun h => h, fun h => h⟩
theorem R_seq {x y : SCode} : R (symS n P (.seq x y) k e w) = R (symS n P x ⟨symS n P y k, k.x, k.r, k.p⟩ e w) := propext ⟨fun h => h, fun h => h⟩
theorem R_cond {c : Operand} {x y : SCode} : R (symS n P (.cond c x y) k e w) = condS (ev e c) n P x y k e w := propext ⟨fun h => h, fun h => h⟩
theorem R_block {i : Nat} {c : SCode} : R (symS n P (.block i c) k e w) = R (symS n P c ⟨k.n, fun j => if j = i then k.n else k.x j, k.r, k.p⟩ e w) := propext ⟨fun h => h, fun h => h⟩
theorem R_exit {i : Nat} : R (symS n P (.exit i) k e w) = R (k.x i e w) := propext ⟨fun h => h, fun h => h⟩
theorem R_ret : R (symS n P .ret k e w) = R (k.r e w) := propext ⟨fun h => h, fun h => h⟩
theorem R_nil : R (symOps P [] k e w) = R (k.n e w) := propext ⟨fun h => h, fun h => h⟩
theorem R_guard {s : SOp} {t : Nat} {want : Bool} : R (symOps P (⟨d, s, some (t, want)⟩ :: l) k e w) = gOps (e t) want P d s l k e w := by
  show (valK (e t) fun v => match v with | .bool b => if b = want then _ else _ | _ => _) = _
  unfold valK gOps; cases e t <;> rfl
theorem g_true {s : SOp} {b : Bool} : gOps (.bool b) true P d s l k e w = if b = true then R (symOps P (⟨d, s, none⟩ :: l) k e w) else R (symOps P l k (updO e d undef) w) := propext ⟨fun h => h, fun h => h⟩
theorem g_false {s : SOp} {b : Bool} : gOps (.bool b) false P d s l k e w = if b = true then R (symOps P l k (updO e d undef) w) else R (symOps P (⟨d, s, none⟩ :: l) k e w) := by cases b <;> rfl
theorem g_undef {s : SOp} {want : Bool} : gOps undef want P d s l k e w = R (symOps P l k (updO e d undef) w) := propext ⟨fun h => h, fun h => h⟩
theorem condS_b {b : Bool} {x y : SCode} : condS (.bool b) n P x y k e w = if b = true then R (symS n P x k e w) else R (symS n P y k e w) := by cases b <;> rfl
theorem R_call {f : FuncId} {args : List Operand} : R (symOps P (⟨d, .call f args, none⟩ :: l) k e w) = callV P f (args.map (ev e)) d l k e w := propext ⟨fun h => h, fun h => h⟩
theorem R_ite {c : Prop} [Decidable c] {f g : Env → World → Prop} : R ((if c then f else g) e w) = if c then R (f e w) else R (g e w) := by split <;> rfl
theorem updO_some {t : Nat} {v : Value} : updO e (some t) v = upd e t v := Eq.trans (Eq.refl _) (Eq.refl _)
theorem updO_none {v : Value} : updO e none v = e := Eq.trans (Eq.refl _) (Eq.refl _)
theorem ev_tmp {t : Nat} : ev e (.tmp t) = e t := Eq.trans (Eq.refl _) (Eq.refl _)
theorem ev_const {v : Value} : ev e (.const v) = v := Eq.trans (Eq.refl _) (Eq.refl _)
theorem ev_func {f : Nat} : ev e (.func f) = .func (.func f) #[] #[] := Eq.trans (Eq.refl _) (Eq.refl _)
theorem upd_at {d t : Nat} {v : Value} : upd e d v t = if t = d then v else e t := Eq.trans (Eq.refl _) (Eq.refl _)
theorem add_lit (b o m : Nat) : Addr.add ⟨b, o, none⟩ m = ⟨b, o + m, none⟩ := by
  unfold Addr.add; split
  · subst_vars; rfl
  · rfl
theorem O_mv {x : Operand} : symOp P (.mv x) e w K = v1 (some (ev e x)) K w := by
  rfl
theorem R_mv {x : Operand} : R (symOps P (⟨d, .mv x, none⟩ :: l) k e w) = val1 (some (ev e x)) P d l k e w := by
  show symOp P (.mv x) e w (fun v w' => symOps P l k (updO e d v) w') = v1 (some (ev e x)) (fun v w' => symOps P l k (updO e d v) w') w
  exact O_mv
theorem O_pick {c x y : Operand} : symOp P (.pick c x y) e w K = v1 (pickF (ev e c) (ev e x) (ev e y)) K w := by
  simp only [symOp, valK, pickF]; cases ev e c <;> first | rfl | (rename_i b; cases b <;> rfl)
theorem R_pick {c x y : Operand} : R (symOps P (⟨d, .pick c x y, none⟩ :: l) k e w) = val1 (pickF (ev e c) (ev e x) (ev e y)) P d l k e w := by
  show symOp P (.pick c x y) e w (fun v w' => symOps P l k (updO e d v) w') = v1 (pickF (ev e c) (ev e x) (ev e y)) (fun v w' => symOps P l k (updO e d v) w') w
  exact O_pick
theorem O_ld {x : Operand} : symOp P (.ld x) e w K = v1 (ldF w (ev e x)) K w := by
  simp only [symOp, valK, ldF]; cases ev e x <;> first | rfl | (rename_i a; cases a <;> first | rfl | exact optK_as) | exact optK_as
theorem R_ld {x : Operand} : R (symOps P (⟨d, .ld x, none⟩ :: l) k e w) = val1 (ldF w (ev e x)) P d l k e w := by
  show symOp P (.ld x) e w (fun v w' => symOps P l k (updO e d v) w') = v1 (ldF w (ev e x)) (fun v w' => symOps P l k (updO e d v) w') w
  exact O_ld
theorem O_ldn {m : Nat} {x : Operand} : symOp P (.ldn m x) e w K = v1 (ldnF w m (ev e x)) K w := by
  simp only [symOp, valK, ldnF]; cases ev e x <;> first | rfl | (rename_i a; cases a <;> first | rfl | exact optK_map)
theorem R_ldn {m : Nat} {x : Operand} : R (symOps P (⟨d, .ldn m x, none⟩ :: l) k e w) = val1 (ldnF w m (ev e x)) P d l k e w := by
  show symOp P (.ldn m x) e w (fun v w' => symOps P l k (updO e d v) w') = v1 (ldnF w m (ev e x)) (fun v w' => symOps P l k (updO e d v) w') w
  exact O_ldn
theorem O_st {x y : Operand} : symOp P (.st x y) e w K = v2 (stF w (ev e x) (ev e y)) K := by
  simp only [symOp, valK, stF]; cases ev e x <;> first | rfl | (rename_i a; cases a <;> first | rfl | (dsimp only; split <;> rfl))
theorem R_st {x y : Operand} : R (symOps P (⟨d, .st x y, none⟩ :: l) k e w) = val2 (stF w (ev e x) (ev e y)) P d l k e := by
  show symOp P (.st x y) e w (fun v w' => symOps P l k (updO e d v) w') = v2 (stF w (ev e x) (ev e y)) (fun v w' => symOps P l k (updO e d v) w')
  exact O_st
theorem O_stn {m : Nat} {x y : Operand} : symOp P (.stn m x y) e w K = v2 (stnF w m (ev e x) (ev e y)) K := by
  simp only [symOp, valK, stnF]; cases ev e x <;> first | rfl | (rename_i a; cases a <;> first | rfl | (dsimp only; split <;> first | rfl | exact optK_map2))
theorem R_stn {m : Nat} {x y : Operand} : R (symOps P (⟨d, .stn m x y, none⟩ :: l) k e w) = val2 (stnF w m (ev e x) (ev e y)) P d l k e := by
  show symOp P (.stn m x y) e w (fun v w' => symOps P l k (updO e d v) w') = v2 (stnF w m (ev e x) (ev e y)) (fun v w' => symOps P l k (updO e d v) w')
  exact O_stn
theorem O_nilc {x : Operand} : symOp P (.nilc x) e w K = v1 (nilF P (ev e x)) K w := by
  exact optK_as
theorem R_nilc {x : Operand} : R (symOps P (⟨d, .nilc x, none⟩ :: l) k e w) = val1 (nilF P (ev e x)) P d l k e w := by
  show symOp P (.nilc x) e w (fun v w' => symOps P l k (updO e d v) w') = v1 (nilF P (ev e x)) (fun v w' => symOps P l k (updO e d v) w') w
  exact O_nilc
theorem O_bin {op : BinOp} {x y : Operand} : symOp P (.bin op x y) e w K = v1 (binV op (ev e x) (ev e y)) K w := by
  exact optK_as
theorem R_bin {op : BinOp} {x y : Operand} : R (symOps P (⟨d, .bin op x y, none⟩ :: l) k e w) = val1 (binV op (ev e x) (ev e y)) P d l k e w := by
  show symOp P (.bin op x y) e w (fun v w' => symOps P l k (updO e d v) w') = v1 (binV op (ev e x) (ev e y)) (fun v w' => symOps P l k (updO e d v) w') w
  exact O_bin
theorem O_beq {neg : Bool} {x y : Operand} : symOp P (.beq neg x y) e w K = v1 (beqF neg (ev e x) (ev e y)) K w := by
  simp only [symOp, valK, beqF]; cases ev e x <;> cases ev e y <;> rfl
theorem R_beq {neg : Bool} {x y : Operand} : R (symOps P (⟨d, .beq neg x y, none⟩ :: l) k e w) = val1 (beqF neg (ev e x) (ev e y)) P d l k e w := by
  show symOp P (.beq neg x y) e w (fun v w' => symOps P l k (updO e d v) w') = v1 (beqF neg (ev e x) (ev e y)) (fun v w' => symOps P l k (updO e d v) w') w
  exact O_beq
theorem O_eqn {kind : Nat} {neg : Bool} {x : Operand} : symOp P (.eqn kind neg x) e w K = v1 (eqnF kind neg (ev e x)) K w := by
  simp only [symOp, valK, eqnF]; cases nilV kind (ev e x) <;> rfl
theorem R_eqn {kind : Nat} {neg : Bool} {x : Operand} : R (symOps P (⟨d, .eqn kind neg x, none⟩ :: l) k e w) = val1 (eqnF kind neg (ev e x)) P d l k e w := by
  show symOp P (.eqn kind neg x) e w (fun v w' => symOps P l k (updO e d v) w') = v1 (eqnF kind neg (ev e x)) (fun v w' => symOps P l k (updO e d v) w') w
  exact O_eqn
theorem O_un {op : UnOp} {x : Operand} : symOp P (.un op x) e w K = v1 (unF op (ev e x)) K w := by
  simp only [symOp, valK, unF]; cases op <;> cases ev e x <;> rfl
theorem R_un {op : UnOp} {x : Operand} : R (symOps P (⟨d, .un op x, none⟩ :: l) k e w) = val1 (unF op (ev e x)) P d l k e w := by
  show symOp P (.un op x) e w (fun v w' => symOps P l k (updO e d v) w') = v1 (unF op (ev e x)) (fun v w' => symOps P l k (updO e d v) w') w
  exact O_un
theorem O_fa {off : Nat} {x : Operand} : symOp P (.fa off x) e w K = v1 (faF off (ev e x)) K w := by
  simp only [symOp, valK, faF]; cases ev e x <;> first | rfl | (rename_i a; cases a <;> first | rfl | exact optK_as) | exact optK_as
theorem R_fa {off : Nat} {x : Operand} : R (symOps P (⟨d, .fa off x, none⟩ :: l) k e w) = val1 (faF off (ev e x)) P d l k e w := by
  show symOp P (.fa off x) e w (fun v w' => symOps P l k (updO e d v) w') = v1 (faF off (ev e x)) (fun v w' => symOps P l k (updO e d v) w') w
  exact O_fa
theorem O_fld {off m : Nat} {agg : Bool} {x : Operand} : symOp P (.fld off m agg x) e w K = v1 (fldF off m agg (ev e x)) K w := by
  simp only [symOp, valK, fldF]; cases ev e x <;> first | rfl | (cases agg <;> first | rfl | exact optK_as)
theorem R_fld {off m : Nat} {agg : Bool} {x : Operand} : R (symOps P (⟨d, .fld off m agg x, none⟩ :: l) k e w) = val1 (fldF off m agg (ev e x)) P d l k e w := by
  show symOp P (.fld off m agg x) e w (fun v w' => symOps P l k (updO e d v) w') = v1 (fldF off m agg (ev e x)) (fun v w' => symOps P l k (updO e d v) w') w
  exact O_fld
theorem O_ia {size : Nat} {x i : Operand} : symOp P (.ia size x i) e w K = v1 (iaF size (ev e x) (ev e i)) K w := by
  simp only [symOp, valK, iaF]; cases ev e x <;> first | rfl | (rename_i a; cases a <;> cases ev e i <;> first | rfl | (dsimp only; split <;> rfl)) | (rename_i a _ _; cases a <;> cases ev e i <;> first | rfl | (dsimp only; split <;> rfl))
theorem R_ia {size : Nat} {x i : Operand} : R (symOps P (⟨d, .ia size x i, none⟩ :: l) k e w) = val1 (iaF size (ev e x) (ev e i)) P d l k e w := by
  show symOp P (.ia size x i) e w (fun v w' => symOps P l k (updO e d v) w') = v1 (iaF size (ev e x) (ev e i)) (fun v w' => symOps P l k (updO e d v) w') w
  exact O_ia
theorem O_iaa {len size : Nat} {x i : Operand} : symOp P (.iaa len size x i) e w K = v1 (iaaF len size (ev e x) (ev e i)) K w := by
  simp only [symOp, valK, iaaF]; cases ev e x <;> first | rfl | (rename_i a; cases a <;> cases ev e i <;> first | rfl | (dsimp only; split <;> rfl)) | (rename_i a _ _; cases a <;> cases ev e i <;> first | rfl | (dsimp only; split <;> rfl))
theorem R_iaa {len size : Nat} {x i : Operand} : R (symOps P (⟨d, .iaa len size x i, none⟩ :: l) k e w) = val1 (iaaF len size (ev e x) (ev e i)) P d l k e w := by
  show symOp P (.iaa len size x i) e w (fun v w' => symOps P l k (updO e d v) w') = v1 (iaaF len size (ev e x) (ev e i)) (fun v w' => symOps P l k (updO e d v) w') w
  exact O_iaa
theorem O_idx {len size : Nat} {agg : Bool} {x i : Operand} : symOp P (.idx len size agg x i) e w K = v1 (idxF len size agg (ev e x) (ev e i)) K w := by
  simp only [symOp, valK, idxF]; cases ev e x <;> cases ev e i <;> first | rfl | (dsimp only; split <;> first | rfl | (cases agg <;> first | rfl | exact optK_as))
theorem R_idx {len size : Nat} {agg : Bool} {x i : Operand} : R (symOps P (⟨d, .idx len size agg x i, none⟩ :: l) k e w) = val1 (idxF len size agg (ev e x) (ev e i)) P d l k e w := by
  show symOp P (.idx len size agg x i) e w (fun v w' => symOps P l k (updO e d v) w') = v1 (idxF len size agg (ev e x) (ev e i)) (fun v w' => symOps P l k (updO e d v) w') w
  exact O_idx
theorem O_sidx {x i : Operand} : symOp P (.sidx x i) e w K = v1 (sidxF (ev e x) (ev e i)) K w := by
  simp only [symOp, valK, sidxF]; cases ev e x <;> cases ev e i <;> first | rfl | (dsimp only; split <;> first | rfl | exact optK_map)
theorem R_sidx {x i : Operand} : R (symOps P (⟨d, .sidx x i, none⟩ :: l) k e w) = val1 (sidxF (ev e x) (ev e i)) P d l k e w := by
  show symOp P (.sidx x i) e w (fun v w' => symOps P l k (updO e d v) w') = v1 (sidxF (ev e x) (ev e i)) (fun v w' => symOps P l k (updO e d v) w') w
  exact O_sidx
theorem O_ext {x : Operand} {i : Nat} : symOp P (.ext x i) e w K = v1 (extF i (ev e x)) K w := by
  simp only [symOp, valK, extF]; cases ev e x <;> first | rfl | (rename_i a; cases a <;> first | rfl | exact optK_as) | exact optK_as
theorem R_ext {x : Operand} {i : Nat} : R (symOps P (⟨d, .ext x i, none⟩ :: l) k e w) = val1 (extF i (ev e x)) P d l k e w := by
  show symOp P (.ext x i) e w (fun v w' => symOps P l k (updO e d v) w') = v1 (extF i (ev e x)) (fun v w' => symOps P l k (updO e d v) w') w
  exact O_ext
theorem O_box {t : TypeId} {x : Operand} : symOp P (.box t x) e w K = v2 (boxF w t (ev e x)) K := by
  rfl
theorem R_box {t : TypeId} {x : Operand} : R (symOps P (⟨d, .box t x, none⟩ :: l) k e w) = val2 (boxF w t (ev e x)) P d l k e := by
  show symOp P (.box t x) e w (fun v w' => symOps P l k (updO e d v) w') = v2 (boxF w t (ev e x)) (fun v w' => symOps P l k (updO e d v) w')
  exact O_box
theorem O_alloc {t : TypeId} {z : Value} : symOp P (.alloc t z) e w K = v2 (boxF w t z) K := by
  rfl
theorem R_alloc {t : TypeId} {z : Value} : R (symOps P (⟨d, .alloc t z, none⟩ :: l) k e w) = val2 (boxF w t z) P d l k e := by
  show symOp P (.alloc t z) e w (fun v w' => symOps P l k (updO e d v) w') = v2 (boxF w t z) (fun v w' => symOps P l k (updO e d v) w')
  exact O_alloc
theorem O_bld {z : Array Value} {parts : List (Nat × Nat × Operand)} : symOp P (.bld z parts) e w K = v1 ((fillV e z parts).map .agg) K w := by
  cases h : fillV e z parts <;> simp [symOp, v1, h, optK]
theorem R_bld {z : Array Value} {parts : List (Nat × Nat × Operand)} : R (symOps P (⟨d, .bld z parts, none⟩ :: l) k e w) = val1 ((fillV e z parts).map .agg) P d l k e w := by
  show symOp P (.bld z parts) e w (fun v w' => symOps P l k (updO e d v) w') = v1 ((fillV e z parts).map .agg) (fun v w' => symOps P l k (updO e d v) w') w
  exact O_bld
theorem O_bsl {t : TypeId} {z : Array Value} {len : Nat} {parts : List (Nat × Nat × Operand)} : symOp P (.bsl t z len parts) e w K = v2 (bslF w t len (fillV e z parts)) K := by
  cases h : fillV e z parts <;> simp [symOp, v2, h, optK, bslF]
theorem R_bsl {t : TypeId} {z : Array Value} {len : Nat} {parts : List (Nat × Nat × Operand)} : R (symOps P (⟨d, .bsl t z len parts, none⟩ :: l) k e w) = val2 (bslF w t len (fillV e z parts)) P d l k e := by
  show symOp P (.bsl t z len parts) e w (fun v w' => symOps P l k (updO e d v) w') = v2 (bslF w t len (fillV e z parts)) (fun v w' => symOps P l k (updO e d v) w')
  exact O_bsl
theorem O_mkmap  : symOp P (.mkmap) e w K = v2 (some (.map (some w.heap.size), w.alloc (.map #[] 0))) K := by
  rfl
theorem R_mkmap  : R (symOps P (⟨d, .mkmap, none⟩ :: l) k e w) = val2 (some (.map (some w.heap.size), w.alloc (.map #[] 0))) P d l k e := by
  show symOp P (.mkmap) e w (fun v w' => symOps P l k (updO e d v) w') = v2 (some (.map (some w.heap.size), w.alloc (.map #[] 0))) (fun v w' => symOps P l k (updO e d v) w')
  exact O_mkmap
theorem O_mkif {t : TypeId} {x : Operand} : symOp P (.mkif t x) e w K = v1 (some (.iface t (ev e x))) K w := by
  rfl
theorem R_mkif {t : TypeId} {x : Operand} : R (symOps P (⟨d, .mkif t x, none⟩ :: l) k e w) = val1 (some (.iface t (ev e x))) P d l k e w := by
  show symOp P (.mkif t x) e w (fun v w' => symOps P l k (updO e d v) w') = v1 (some (.iface t (ev e x))) (fun v w' => symOps P l k (updO e d v) w') w
  exact O_mkif
theorem O_mkfn {fn : Fn} {first captured : List Operand} : symOp P (.mkfn fn first captured) e w K = v1 (some (.func fn (first.map (ev e)).toArray (captured.map (ev e)).toArray)) K w := by
  rfl
theorem R_mkfn {fn : Fn} {first captured : List Operand} : R (symOps P (⟨d, .mkfn fn first captured, none⟩ :: l) k e w) = val1 (some (.func fn (first.map (ev e)).toArray (captured.map (ev e)).toArray)) P d l k e w := by
  show symOp P (.mkfn fn first captured) e w (fun v w' => symOps P l k (updO e d v) w') = v1 (some (.func fn (first.map (ev e)).toArray (captured.map (ev e)).toArray)) (fun v w' => symOps P l k (updO e d v) w') w
  exact O_mkfn
theorem O_len {kind : Nat} {x : Operand} : symOp P (.len kind x) e w K = v1 (lenF w kind (ev e x)) K w := by
  simp only [symOp, valK, lenF]; rcases kind with _ | _ | _ | kind <;> cases ev e x <;> first | rfl | (rename_i r; cases r <;> first | rfl | (rename_i r; cases h : w.heap[r]? <;> first | (simp [h, v1]; done) | (rename_i o; cases o <;> simp [h, v1])))
theorem R_len {kind : Nat} {x : Operand} : R (symOps P (⟨d, .len kind x, none⟩ :: l) k e w) = val1 (lenF w kind (ev e x)) P d l k e w := by
  show symOp P (.len kind x) e w (fun v w' => symOps P l k (updO e d v) w') = v1 (lenF w kind (ev e x)) (fun v w' => symOps P l k (updO e d v) w') w
  exact O_len
theorem O_slc {size : Nat} {x : Operand} {lo hi mx : Option Operand} : symOp P (.slc size x lo hi mx) e w K = v1 (slcF size (ev e x) (lo.map (ev e)) (hi.map (ev e)) (mx.map (ev e))) K w := by
  simp only [symOp, valK, slcF]; cases ev e x <;> first | rfl | exact optK_as
theorem R_slc {size : Nat} {x : Operand} {lo hi mx : Option Operand} : R (symOps P (⟨d, .slc size x lo hi mx, none⟩ :: l) k e w) = val1 (slcF size (ev e x) (lo.map (ev e)) (hi.map (ev e)) (mx.map (ev e))) P d l k e w := by
  show symOp P (.slc size x lo hi mx) e w (fun v w' => symOps P l k (updO e d v) w') = v1 (slcF size (ev e x) (lo.map (ev e)) (hi.map (ev e)) (mx.map (ev e))) (fun v w' => symOps P l k (updO e d v) w') w
  exact O_slc
theorem O_slca {m size : Nat} {x : Operand} {lo hi mx : Option Operand} : symOp P (.slca m size x lo hi mx) e w K = v1 (slcaF m size (ev e x) (lo.map (ev e)) (hi.map (ev e)) (mx.map (ev e))) K w := by
  simp only [symOp, valK, slcaF]; cases ev e x <;> first | rfl | (rename_i a; cases a <;> first | rfl | exact optK_as)
theorem R_slca {m size : Nat} {x : Operand} {lo hi mx : Option Operand} : R (symOps P (⟨d, .slca m size x lo hi mx, none⟩ :: l) k e w) = val1 (slcaF m size (ev e x) (lo.map (ev e)) (hi.map (ev e)) (mx.map (ev e))) P d l k e w := by
  show symOp P (.slca m size x lo hi mx) e w (fun v w' => symOps P l k (updO e d v) w') = v1 (slcaF m size (ev e x) (lo.map (ev e)) (hi.map (ev e)) (mx.map (ev e))) (fun v w' => symOps P l k (updO e d v) w') w
  exact O_slca
theorem O_lkp {ik : IntKind} {z : Value} {x i : Operand} {ok : Bool} : symOp P (.lkp ik z x i ok) e w K = v1 (lkpV w z ok (ev e x) (ev e i)) K w := by
  exact optK_as
theorem R_lkp {ik : IntKind} {z : Value} {x i : Operand} {ok : Bool} : R (symOps P (⟨d, .lkp ik z x i ok, none⟩ :: l) k e w) = val1 (lkpV w z ok (ev e x) (ev e i)) P d l k e w := by
  show symOp P (.lkp ik z x i ok) e w (fun v w' => symOps P l k (updO e d v) w') = v1 (lkpV w z ok (ev e x) (ev e i)) (fun v w' => symOps P l k (updO e d v) w') w
  exact O_lkp (ik := ik)
theorem O_conv {kk : IntKind} {x : Operand} : symOp P (.conv kk x) e w K = v1 (convF kk (ev e x)) K w := by
  simp only [symOp, valK, convF]; cases ev e x <;> rfl
theorem R_conv {kk : IntKind} {x : Operand} : R (symOps P (⟨d, .conv kk x, none⟩ :: l) k e w) = val1 (convF kk (ev e x)) P d l k e w := by
  show symOp P (.conv kk x) e w (fun v w' => symOps P l k (updO e d v) w') = v1 (convF kk (ev e x)) (fun v w' => symOps P l k (updO e d v) w') w
  exact O_conv
theorem O_ta {t : TypeId} {z : Value} {x : Operand} {ok : Bool} : symOp P (.ta t z x ok) e w K = v1 (taF t z ok (ev e x)) K w := by
  simp only [symOp, valK, taF]; cases ev e x <;> first | rfl | (dsimp only; split <;> first | rfl | (cases ok <;> rfl))
theorem R_ta {t : TypeId} {z : Value} {x : Operand} {ok : Bool} : R (symOps P (⟨d, .ta t z x ok, none⟩ :: l) k e w) = val1 (taF t z ok (ev e x)) P d l k e w := by
  show symOp P (.ta t z x ok) e w (fun v w' => symOps P l k (updO e d v) w') = v1 (taF t z ok (ev e x)) (fun v w' => symOps P l k (updO e d v) w') w
  exact O_ta
end
section
variable {k : IntKind} {a b : Int} {w : World} {ad : Addr}
theorem pickF_b {c : Bool} {x y : Value} : pickF (.bool c) x y = some (if c = true then x else y) := Eq.trans (Eq.refl _) (Eq.refl _)
theorem ldF_p : ldF w (.pointer (some ad)) = w.cell? ad := Eq.trans (Eq.refl _) (Eq.refl _)
theorem ldnF_p {m : Nat} : ldnF w m (.pointer (some ad)) = (loadN w ad 0 m).map (fun u => .agg u.toArray) := Eq.trans (Eq.refl _) (Eq.refl _)
theorem stF_p {u v : Value} (h1 : isCell u = true) (h2 : w.cell? ad = some v) (h3 : w.frozen? ad = false) : stF w (.pointer (some ad)) u = some (undef, w.setCell ad u) := by simp [stF, h1, h2, h3]
theorem nilF_p {P : Program} : nilF P (.pointer (some ad)) = some (.pointer (some ad)) := Eq.trans (Eq.refl _) (Eq.refl _)
theorem nilF_f {P : Program} {f : Nat} {c d : Array Value} : nilF P (.func (.func f) c d) = some (.func (.func f) c d) := Eq.trans (Eq.refl _) (Eq.refl _)
theorem nilF_m {P : Program} {t : TypeId} {u : Value} {name : String} {c : Array Value} (h : nilMOK P t u name) : nilF P (.func (.method name) #[.iface t u] c) = some (.func (.method name) #[.iface t u] c) := by simp [nilF, h]
theorem beqF_f {a b : Bool} : beqF false (.bool a) (.bool b) = some (.bool (a == b)) := Eq.trans (Eq.refl _) (Eq.refl _)
theorem beqF_t {a b : Bool} : beqF true (.bool a) (.bool b) = some (.bool (!(a == b))) := Eq.trans (Eq.refl _) (Eq.refl _)
theorem eqnF_p {neg : Bool} {a : Option Addr} : eqnF 0 neg (.pointer a) = some (.bool (if neg = true then !a.isNone else a.isNone)) := Eq.trans (Eq.refl _) (Eq.refl _)
theorem eqnF_s {neg : Bool} {a : Option Addr} {l c : Nat} : eqnF 1 neg (.slice a l c) = some (.bool (if neg = true then !a.isNone else a.isNone)) := Eq.trans (Eq.refl _) (Eq.refl _)
theorem eqnF_m {neg : Bool} {r : Option Nat} : eqnF 2 neg (.map r) = some (.bool (if neg = true then !r.isNone else r.isNone)) := Eq.trans (Eq.refl _) (Eq.refl _)
theorem unF_not {b : Bool} : unF .not (.bool b) = some (.bool !b) := Eq.trans (Eq.refl _) (Eq.refl _)
theorem unF_neg : unF .neg (.int k a) = some (.int k (k.wrap (0 - a))) := Eq.trans (Eq.refl _) (Eq.refl _)
theorem faF_p {off : Nat} : faF off (.pointer (some ad)) = some (.pointer (some (ad.add off))) := Eq.trans (Eq.refl _) (Eq.refl _)
theorem fldF_f {off m : Nat} {cs : Array Value} : fldF off m false (.agg cs) = cs[off]? := Eq.trans (Eq.refl _) (Eq.refl _)
theorem fldF_t {off m : Nat} {cs : Array Value} : fldF off m true (.agg cs) = some (.agg (cs.extract off (off + m))) := Eq.trans (Eq.refl _) (Eq.refl _)
theorem iaF_s {size len cap : Nat} (h : 0 ≤ a ∧ a < (len : Int)) : iaF size (.slice (some ad) len cap) (.int k a) = some (.pointer (some (ad.add (a.toNat * size)))) := by simp only [iaF]; rw [if_pos h]
theorem iaaF_s {len size : Nat} (h : 0 ≤ a ∧ a < (len : Int)) : iaaF len size (.pointer (some ad)) (.int k a) = some (.pointer (some (ad.add (a.toNat * size)))) := by simp only [iaaF]; rw [if_pos h]
theorem extF_t {i : Nat} {vs : Array Value} : extF i (.tuple vs) = vs[i]? := Eq.trans (Eq.refl _) (Eq.refl _)
theorem boxF_eq {t : TypeId} {v : Value} : boxF w t v = some (.pointer (some ⟨w.heap.size, 0, none⟩), w.alloc (.cells v.cells t)) := Eq.trans (Eq.refl _) (Eq.refl _)
theorem bslF_some {t : TypeId} {len : Nat} {cs : Array Value} : bslF w t len (some cs) = some (.slice (some ⟨w.heap.size, 0, none⟩) len len, w.alloc (.cells cs t)) := Eq.trans (Eq.refl _) (Eq.refl _)
theorem lenF_s {a : Option Addr} {n c : Nat} : lenF w 0 (.slice a n c) = some (.int .i64 n) := Eq.trans (Eq.refl _) (Eq.refl _)
theorem lenF_str {s : ByteArray} : lenF w 1 (.string s) = some (.int .i64 s.size) := Eq.trans (Eq.refl _) (Eq.refl _)
theorem lenF_n : lenF w 2 (.map none) = some (.int .i64 0) := Eq.trans (Eq.refl _) (Eq.refl _)
theorem lenF_m {r : Nat} {es : Array MapEntry} {c : Nat} (h : w.heap[r]? = some (.map es c)) : lenF w 2 (.map (some r)) = some (.int .i64 es.size) := by simp [lenF, h]
theorem slcF_s {size len cap : Nat} {a : Option Addr} {lo hi mx : Option Value} : slcF size (.slice a len cap) lo hi mx = slcV size a len cap lo hi mx := Eq.trans (Eq.refl _) (Eq.refl _)
theorem slcaF_p {m size : Nat} {lo hi mx : Option Value} : slcaF m size (.pointer (some ad)) lo hi mx = slcV size (some ad) m m lo hi mx := Eq.trans (Eq.refl _) (Eq.refl _)
theorem convF_i {kk : IntKind} : convF kk (.int k a) = some (.int kk (kk.wrap a)) := Eq.trans (Eq.refl _) (Eq.refl _)
theorem taF_i {t t' : TypeId} {z u : Value} {ok : Bool} : taF t z ok (.iface t' u) = (if t' = t then some (if ok = true then .tuple #[u, .bool true] else u) else if ok = true then some (.tuple #[z, .bool false]) else none) := Eq.trans (Eq.refl _) (Eq.refl _)
theorem bin_add : binV .add (.int k a) (.int k b) = some (.int k (k.wrap (a + b))) := by simp [binV]
theorem bin_sub : binV .sub (.int k a) (.int k b) = some (.int k (k.wrap (a - b))) := by simp [binV]
theorem bin_mul : binV .mul (.int k a) (.int k b) = some (.int k (k.wrap (a * b))) := by simp [binV]
theorem bin_eql : binV .eql (.int k a) (.int k b) = some (.bool (decide (a = b))) := by simp [binV]
theorem bin_neq : binV .neq (.int k a) (.int k b) = some (.bool (!decide (a = b))) := by simp [binV]
theorem bin_lss : binV .lss (.int k a) (.int k b) = some (.bool (decide (a < b))) := by simp [binV]
theorem bin_leq : binV .leq (.int k a) (.int k b) = some (.bool (decide (a ≤ b))) := by simp [binV]
theorem bin_gtr : binV .gtr (.int k a) (.int k b) = some (.bool (decide (b < a))) := by simp [binV]
theorem bin_geq : binV .geq (.int k a) (.int k b) = some (.bool (decide (b ≤ a))) := by simp [binV]
theorem bin_quo (h : b ≠ 0) : binV .quo (.int k a) (.int k b) = some (.int k (k.wrap (a.tdiv b))) := by simp [binV, h]
theorem bin_rem (h : b ≠ 0) : binV .rem (.int k a) (.int k b) = some (.int k (a.tmod b)) := by simp [binV, h]
theorem wrap_i64 {x : Int} (h : -9223372036854775808 ≤ x ∧ x < 9223372036854775808) : IntKind.i64.wrap x = x := by
  unfold IntKind.wrap IntKind.bits IntKind.signed
  simp only
  split
  · rename_i h'; simp at h'; omega
  · rename_i h'; simp at h'; omega
theorem wrap_u8 (x : Int) : IntKind.u8.wrap x = x % 256 := by simp [IntKind.wrap, IntKind.bits, IntKind.signed]
end
end Go.Proofs.Ytneehlkofcdhoaa
