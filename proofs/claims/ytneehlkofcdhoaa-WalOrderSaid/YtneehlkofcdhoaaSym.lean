/- A plain reading of the model's weakest preconditions: frames as functions, one equation an operation, sound for the kit's own 'Code.wp'. -/
import Derived.Calls
import Derived.Orders
import Derived.Tactics
import Derived.Laws.Tables
namespace Go.Proofs.Ytneehlkofcdhoaa
open Go

/-- What a call may come to: a value (Φ) or a panic (Ψ). -/
def Out (Φ : Value → World → Prop) (Ψ : List PanicEntry → World → Prop) : Ending → World → Prop
  | .returned v, w => Φ v w
  | .panicked c, w => Ψ c w
  | .outgrown, _ => False

/-- A frame, as a function of the slots. -/
abbrev Env := Nat → Value
def upd (e : Env) (d : Nat) (v : Value) : Env := fun t => if t = d then v else e t
theorem upd_eq (e : Env) (d : Nat) (v : Value) : upd e d v d = v := by simp [upd]
theorem upd_ne (e : Env) {d t : Nat} (v : Value) (h : t ≠ d) : upd e d v t = e t := by simp [upd, h]
def updO (e : Env) : Option Tmp → Value → Env
  | some d, v => upd e d v
  | none, _ => e
def env0 : Env := fun _ => undef
def initEnv : List Value → Nat → Env → Env
  | [], _, e => e
  | v :: l, i, e => initEnv l (i + 1) (upd e i v)
def ev (e : Env) : Operand → Value
  | .tmp t => e t
  | .const v => v
  | .global g => .pointer (some ⟨g, 0, none⟩)
  | .func f => .func (.func f) #[] #[]

structure Rel (n : Nat) (a : Act) (e : Env) : Prop where
  size : a.tmps.size = n
  defers : a.defers = []
  val : ∀ t, a.tmps.getD t undef = e t

theorem Rel.eval {n : Nat} {a : Act} {e : Env} (h : Rel n a e) : a.eval = ev e := by
  funext x; cases x <;> simp [Act.eval, ev, ← h.val]

theorem Rel.put {n : Nat} {a : Act} {e : Env} (h : Rel n a e) {d : Option Tmp} (hd : ∀ t, d = some t → t < n) (v : Value) : Rel n (a.put d v) (updO e d v) := by
  cases d with
  | none => exact h
  | some d =>
    have hlt := hd d rfl
    refine ⟨by simp [Act.put, h.size], h.defers, fun t => ?_⟩
    by_cases ht : t = d
    · subst ht
      simp [Act.put, updO, upd, h.size, hlt]
    · have h1 := h.val t
      simp [Act.put, updO, upd, ht, Array.getElem?_setIfInBounds_ne (Ne.symm ht)]
      simpa using h1

/-- What follows: behind the code, at an exit, at a return, at a panic. -/
structure Kont where
  n : Env → World → Prop
  x : Nat → Env → World → Prop
  r : Env → World → Prop
  p : List PanicEntry → World → Prop

def lift (n : Nat) (k : Kont) : Exit → Act → World → Prop
  | .normal, a, w => ∃ e, Rel n a e ∧ k.n e w
  | .exit i, a, w => ∃ e, Rel n a e ∧ k.x i e w
  | .ret, a, w => ∃ e, Rel n a e ∧ k.r e w
  | .panic c, a, w => a.defers = [] ∧ k.p c w
  | .outgrown, _, _ => False
  | .goto _, _, _ => False



def softK (r : Result Next) (K : Value → World → Prop) : Prop :=
  match r with
  | .ok (.value v) w' => K v w'
  | .ok .skip w' => K undef w'
  | _ => False

def hardK (P : Program) (r : Result Next) (K : Value → World → Prop) (p : List PanicEntry → World → Prop) : Prop :=
  match r with
  | .ok (.value v) w' => K v w'
  | .ok .skip w' => K undef w'
  | .ok (.enter f args) w' => Calls P f args w' (Out K p)
  | .halt (.panic v) w' => p [{ v, recovered := false }] w'
  | _ => False

def asksE (_P : Program) (_o : Oper) (_e : Env) (_w : World) : Prop := False

/-- A value first brought to its plain form, then handed on. -/
def valK {α : Type} (v : α) (K : α → Prop) : Prop := K v
def optK {α : Type} (o : Option α) (K : α → Prop) : Prop := match o with | some v => K v | none => False
theorem valK_eq {α : Type} (v : α) (K : α → Prop) : valK v K = K v := rfl
theorem optK_some {α : Type} (v : α) (K : α → Prop) : optK (some v) K = K v := rfl
@[congr] theorem valK_congr {α : Type} {v v' : α} (K : α → Prop) (h : v = v') : valK v K = valK v' K := by rw [h]
@[congr] theorem optK_congr {α : Type} {v v' : Option α} (K : α → Prop) (h : v = v') : optK v K = optK v' K := by rw [h]

/-- What may lie in one cell. -/
def isCell : Value → Bool
  | .agg _ | .tuple _ => false
  | _ => true

def loadN (w : World) (a : Addr) : (i n : Nat) → Option (List Value)
  | _, 0 => some []
  | i, n + 1 => match w.cell? (a.add i) with
    | some v => (loadN w a (i + 1) n).map (v :: ·)
    | none => none

def storeN (w : World) (a : Addr) : (i : Nat) → List Value → Option World
  | _, [] => some w
  | i, v :: l => if isCell v && (w.cell? (a.add i)).isSome && !w.frozen? (a.add i) then storeN (w.setCell (a.add i) v) a (i + 1) l else none

/-- Operations, with what the program's tables say of them looked up. -/
inductive SOp where
  | mv (x : Operand)
  | pick (c x y : Operand)
  | ld (x : Operand)
  | ldn (n : Nat) (x : Operand)
  | st (a x : Operand)
  | stn (n : Nat) (a x : Operand)
  | nilc (x : Operand)
  | bin (op : BinOp) (x y : Operand)
  | beq (neg : Bool) (x y : Operand)
  | eqn (kind : Nat) (neg : Bool) (x : Operand)
  | un (op : UnOp) (x : Operand)
  | fa (off : Nat) (x : Operand)
  | fld (off n : Nat) (agg : Bool) (x : Operand)
  | ia (size : Nat) (x i : Operand)
  | iaa (len size : Nat) (x i : Operand)
  | idx (len size : Nat) (agg : Bool) (x i : Operand)
  | sidx (x i : Operand)
  | ext (x : Operand) (i : Nat)
  | box (t : TypeId) (x : Operand)
  | alloc (t : TypeId) (z : Value)
  | bld (z : Array Value) (parts : List (Nat × Nat × Operand))
  | bsl (t : TypeId) (z : Array Value) (len : Nat) (parts : List (Nat × Nat × Operand))
  | mkmap
  | mkif (t : TypeId) (x : Operand)
  | mkfn (fn : Fn) (first captured : List Operand)
  | len (kind : Nat) (x : Operand)
  | slc (size : Nat) (x : Operand) (lo hi mx : Option Operand)
  | slca (n size : Nat) (x : Operand) (lo hi mx : Option Operand)
  | lkp (k : IntKind) (z : Value) (x i : Operand) (ok : Bool)
  | conv (k : IntKind) (x : Operand)
  | ta (t : TypeId) (z : Value) (x : Operand) (ok : Bool)
  | call (f : FuncId) (args : List Operand)
  | hard (o : Oper)

/-- An integer's binary operation. -/
def binV (op : BinOp) : Value → Value → Option Value
  | .int k a, .int k' b =>
      match op with
      | .shl => if b < 0 then none else some (.int k (k.wrap (a * 2 ^ (min b.toNat k.bits))))
      | .shr => if b < 0 then none else some (.int k (a.fdiv (2 ^ (min b.toNat k.bits))))
      | .add => if k = k' then some (.int k (k.wrap (a + b))) else none
      | .sub => if k = k' then some (.int k (k.wrap (a - b))) else none
      | .mul => if k = k' then some (.int k (k.wrap (a * b))) else none
      | .quo => if k = k' then (if b = 0 then none else some (.int k (k.wrap (a.tdiv b)))) else none
      | .rem => if k = k' then (if b = 0 then none else some (.int k (a.tmod b))) else none
      | .and => if k = k' then some (.int k (k.wrap (BitVec.ofInt k.bits a &&& BitVec.ofInt k.bits b).toNat)) else none
      | .or => if k = k' then some (.int k (k.wrap (BitVec.ofInt k.bits a ||| BitVec.ofInt k.bits b).toNat)) else none
      | .xor => if k = k' then some (.int k (k.wrap (BitVec.ofInt k.bits a ^^^ BitVec.ofInt k.bits b).toNat)) else none
      | .eql => if k = k' then some (.bool (decide (a = b))) else none
      | .neq => if k = k' then some (.bool (!decide (a = b))) else none
      | .lss => if k = k' then some (.bool (decide (a < b))) else none
      | .leq => if k = k' then some (.bool (decide (a ≤ b))) else none
      | .gtr => if k = k' then some (.bool (decide (b < a))) else none
      | .geq => if k = k' then some (.bool (decide (b ≤ a))) else none
      | _ => none
  | _, _ => none

/-- Is it nil? (0: a pointer, 1: a slice, 2: a map) -/
def nilV : Nat → Value → Option Bool
  | 0, .pointer a => some a.isNone
  | 1, .slice a _ _ => some a.isNone
  | 2, .map r => some r.isNone
  | _, _ => none

/-- The slots and their bounds. -/
def bndV : Value → Nat → Option Nat
  | .int _ n, y => if 0 ≤ n ∧ n ≤ y then some n.toNat else none
  | _, _ => none

def slcV (size : Nat) (a : Option Addr) (len cap : Nat) (lo hi mx : Option Value) : Option Value :=
  match (match mx with | some v => bndV v cap | none => some cap) with
  | none => none
  | some m =>
    match (match hi with | some v => bndV v m | none => if mx.isSome then none else some len) with
    | none => none
    | some h =>
      match (match lo with | some v => bndV v h | none => some 0) with
      | none => none
      | some l => some (.slice (if m = l then a else a.map (·.add (l * size))) (h - l) (m - l))

/-- The entry of a key among a map's entries; keys of one kind of integer. -/
def findInt (k : IntKind) (n : Int) : List MapEntry → Option Value
  | [] => none
  | e :: l => match e.key with
    | .int _ m => if n = m then some e.val else findInt k n l
    | _ => findInt k n l
def intKeys (k : IntKind) (l : List MapEntry) : Bool := l.all fun e => match e.key with | .int k' _ => k = k' | _ => false

def lkpV (w : World) (z : Value) (ok : Bool) : Value → Value → Option Value
  | .map r, .int k n =>
    match (match r with | none => some #[] | some b => match w.heap[b]? with | some (.map es _) => some es | _ => none) with
    | none => none
    | some es => if intKeys k es.toList then
        match findInt k n es.toList with
        | some v => some (if ok then .tuple #[v, .bool true] else v)
        | none => some (if ok then .tuple #[z, .bool false] else z)
      else none
  | _, _ => none

def fillV (e : Env) (z : Array Value) : List (Nat × Nat × Operand) → Option (Array Value)
  | [] => some z
  | (off, size, x) :: l => let v := ev e x
    if v.cells.size ≠ size || off + v.cells.size > z.size then none
    else fillV e (v.cells.zipIdx.foldl (fun cs (c, j) => cs.setIfInBounds (off + j) c) z) l

/-- The receiver behind a method value is not nil. -/
def nilMOK (P : Program) (t : TypeId) (u : Value) (name : String) : Prop := ∀ w, (nilAhead (P.types.size + Made.depth) t u name).run P w = .ok (some false) w

open Classical in
noncomputable def nilF (P : Program) (v : Value) : Option Value :=
  match v with
  | .pointer (some a) => some (.pointer (some a))
  | .func (.func f) c d => some (.func (.func f) c d)
  | .func (.method name) f c => match (f[0]? : Option Value) with
    | some (.iface t u) => if nilMOK P t u name then some (.func (.method name) f c) else none
    | _ => none
  | _ => none

def symOp (P : Program) (s : SOp) (e : Env) (w : World) (K : Value → World → Prop) : Prop :=
  match s with
  | .mv x => valK (ev e x) fun v => K v w
  | .pick c x y => valK (ev e c) fun c => match c with | .bool true => valK (ev e x) fun v => K v w | .bool false => valK (ev e y) fun v => K v w | _ => False
  | .ld x => valK (ev e x) fun v => match v with | .pointer (some a) => optK (w.cell? a) fun u => K u w | _ => False
  | .ldn n x => valK (ev e x) fun v => match v with | .pointer (some a) => optK (loadN w a 0 n) fun u => K (.agg u.toArray) w | _ => False
  | .st x y => valK (ev e x) fun v => valK (ev e y) fun u => match v with
    | .pointer (some a) => optK (if isCell u && (w.cell? a).isSome && !w.frozen? a then some (w.setCell a u) else none) fun w' => K undef w'
    | _ => False
  | .stn n x y => valK (ev e x) fun v => valK (ev e y) fun u => match v with
    | .pointer (some a) => optK (if u.cells.size = n then storeN w a 0 u.cells.toList else none) fun w' => K undef w'
    | _ => False
  | .nilc x => optK (nilF P (ev e x)) fun v => K v w
  | .bin op x y => valK (ev e x) fun v => valK (ev e y) fun u => optK (binV op v u) fun r => K r w
  | .beq neg x y => valK (ev e x) fun v => valK (ev e y) fun u => match v, u with
    | .bool a, .bool b => K (.bool (if neg then !(a == b) else a == b)) w
    | _, _ => False
  | .eqn kind neg x => valK (ev e x) fun v => optK (nilV kind v) fun b => K (.bool (if neg then !b else b)) w
  | .un op x => valK (ev e x) fun v => match op, v with
    | .not, .bool b => K (.bool !b) w
    | .neg, .int k n => K (.int k (k.wrap (0 - n))) w
    | _, _ => False
  | .fa off x => valK (ev e x) fun v => match v with | .pointer (some a) => K (.pointer (some (a.add off))) w | _ => False
  | .fld off n agg x => valK (ev e x) fun v => match v with
    | .agg cs => if agg then K (.agg (cs.extract off (off + n))) w else optK cs[off]? fun u => K u w
    | _ => False
  | .ia size x i => valK (ev e x) fun v => valK (ev e i) fun u => match v, u with
    | .slice (some a) len _, .int _ i => optK (if 0 ≤ i ∧ i < (len : Int) then some (a.add (i.toNat * size)) else none) fun a => K (.pointer (some a)) w
    | _, _ => False
  | .iaa len size x i => valK (ev e x) fun v => valK (ev e i) fun u => match v, u with
    | .pointer (some a), .int _ i => optK (if 0 ≤ i ∧ i < (len : Int) then some (a.add (i.toNat * size)) else none) fun a => K (.pointer (some a)) w
    | _, _ => False
  | .idx len size agg x i => valK (ev e x) fun v => valK (ev e i) fun u => match v, u with
    | .agg cs, .int _ i => if 0 ≤ i ∧ i < (len : Int) then (if agg then K (.agg (cs.extract (i.toNat * size) (i.toNat * size + size))) w else optK cs[i.toNat * size]? fun u => K u w) else False
    | _, _ => False
  | .sidx x i => valK (ev e x) fun v => valK (ev e i) fun u => match v, u with
    | .string s, .int _ i => if 0 ≤ i then optK s[i.toNat]? fun b => K (.int .u8 b.toNat) w else False
    | _, _ => False
  | .ext x i => valK (ev e x) fun v => match v with | .tuple vs => optK vs[i]? fun u => K u w | _ => False
  | .box t x => valK (ev e x) fun v => K (.pointer (some ⟨w.heap.size, 0, none⟩)) (w.alloc (.cells v.cells t))
  | .alloc t z => K (.pointer (some ⟨w.heap.size, 0, none⟩)) (w.alloc (.cells z.cells t))
  | .bld z parts => optK (fillV e z parts) fun cs => K (.agg cs) w
  | .bsl t z len parts => optK (fillV e z parts) fun cs => K (.slice (some ⟨w.heap.size, 0, none⟩) len len) (w.alloc (.cells cs t))
  | .mkmap => K (.map (some w.heap.size)) (w.alloc (.map #[] 0))
  | .mkif t x => valK (ev e x) fun v => K (.iface t v) w
  | .mkfn fn first captured => valK (first.map (ev e)) fun f => valK (captured.map (ev e)) fun c => K (.func fn f.toArray c.toArray) w
  | .len kind x => valK (ev e x) fun v => match kind, v with
    | 0, .slice _ n _ => K (.int .i64 n) w
    | 1, .string s => K (.int .i64 s.size) w
    | 2, .map none => K (.int .i64 0) w
    | 2, .map (some r) => match w.heap[r]? with | some (.map es _) => K (.int .i64 es.size) w | _ => False
    | _, _ => False
  | .slc size x lo hi mx => valK (ev e x) fun v => valK (lo.map (ev e)) fun lo => valK (hi.map (ev e)) fun hi => valK (mx.map (ev e)) fun mx => match v with
    | .slice a len cap => optK (slcV size a len cap lo hi mx) fun r => K r w
    | _ => False
  | .slca n size x lo hi mx => valK (ev e x) fun v => valK (lo.map (ev e)) fun lo => valK (hi.map (ev e)) fun hi => valK (mx.map (ev e)) fun mx => match v with
    | .pointer (some a) => optK (slcV size (some a) n n lo hi mx) fun r => K r w
    | _ => False
  | .lkp _ z x i ok => valK (ev e x) fun v => valK (ev e i) fun u => optK (lkpV w z ok v u) fun r => K r w
  | .conv k x => valK (ev e x) fun v => match v with | .int _ n => K (.int k (k.wrap n)) w | _ => False
  | .ta t z x ok => valK (ev e x) fun v => match v with
    | .iface t' u => if t' = t then K (if ok then .tuple #[u, .bool true] else u) w else (if ok then K (.tuple #[z, .bool false]) w else False)
    | _ => False
  | .call _ _ => False
  | .hard _ => False

/-- An operation as the model has it, what does not matter struck. -/
def strip (o : Oper) : Oper := { dst := none, op := o.op, type := o.type, pos := "", after := #[], guard := none }
theorem execOp_strip (ρ : Operand → Value) (o : Oper) : execOp ρ (strip o) = execOp ρ o := by
  obtain ⟨d, op, t, p, a, g⟩ := o; cases op <;> rfl

def isAggD : TypeDesc → Bool
  | .struct _ | .array _ _ => true
  | _ => false
def nilC : TypeDesc → Operand → Option Nat
  | .pointer _, .const (.pointer none) => some 0
  | .slice _, .const (.slice none _ _) => some 1
  | .map _ _, .const (.map none) => some 2
  | _, _ => none
def places (P : Program) (fs : List Field) : Option (List (Nat × Nat)) := fs.mapM fun f => (P.info? f.type).map fun i => (f.offset, i.size)
def resolveParts (place : Nat → Option (Nat × Nat)) (l : List (Nat × Operand)) : Option (List (Nat × Nat × Operand)) :=
  l.mapM fun (i, x) => (place i).map fun (o, s) => (o, s, x)

/-- A function that is entered when it is called. -/
def callable (P : Program) (f : FuncId) : Bool := match P.funcs[f]? with
  | some fn => !(fn.name == "runtime.NumGoroutine") && fn.body.isSome
  | none => false

/-- The tables looked up. -/
def toOp (P : Program) (o : Oper) : SOp :=
  match o.op with
  | .move x | .assign x => .mv x
  | .pick c a b => .pick c a b
  | .load t x => match P.underlying t with
    | some d => if isAggD d then .ldn (P.cellsOf t) x else .ld x
    | none => .hard (strip o)
  | .store t a x => match P.underlying t with
    | some d => if isAggD d then .stn (P.cellsOf t) a x else if P.cellsOf t = 1 then .st a x else .hard (strip o)
    | none => .hard (strip o)
  | .nilCheck x => .nilc x
  | .binOp op t x y _ => match P.underlying t with
    | some (.int _) => .bin op x y
    | some .bool => match op with | .eql => .beq false x y | .neq => .beq true x y | _ => .hard (strip o)
    | some d => match nilC d y with
      | some k => match op with | .eql => .eqn k false x | .neq => .eqn k true x | _ => .hard (strip o)
      | none => .hard (strip o)
    | none => .hard (strip o)
  | .unOp op _ x => .un op x
  | .fieldAddr s x f => match P.underlying s with
    | some (.struct fs) => match fs[f]? with
      | some fd => if (P.info? fd.type).isSome && P.cellsOf fd.type ≠ 0 then .fa fd.offset x else .hard (strip o)
      | none => .hard (strip o)
    | _ => .hard (strip o)
  | .field s x f => match P.underlying s with
    | some (.struct fs) => match fs[f]? with
      | some fd => match P.underlying fd.type with
        | some d => .fld fd.offset (P.cellsOf fd.type) (isAggD d) x
        | none => .hard (strip o)
      | none => .hard (strip o)
    | _ => .hard (strip o)
  | .indexAddr t x i => match P.underlying t with
    | some (.slice e) => if (P.info? e).isSome then .ia (P.cellsOf e) x i else .hard (strip o)
    | some (.array n e) => if (P.info? e).isSome && 1 < n then .iaa n (P.cellsOf e) x i else .hard (strip o)
    | _ => .hard (strip o)
  | .index t x i => match P.underlying t with
    | some (.array n e) => match P.underlying e with
      | some d => .idx n (P.cellsOf e) (isAggD d) x i
      | none => .hard (strip o)
    | some .string => .sidx x i
    | _ => .hard (strip o)
  | .extract x i => .ext x i
  | .box t x => .box t x
  | .alloc t => match (P.info? t).bind (·.zero) with
    | some z => .alloc t z
    | none => .hard (strip o)
  | .build t parts => match P.underlying t, (P.info? t).bind (·.zero) with
    | some (.struct fs), some z => match places P fs.toList with
      | some ps => match resolveParts (ps.toArray[·]?) parts.toList with
        | some l => .bld z.cells l
        | none => .hard (strip o)
      | none => .hard (strip o)
    | some (.array _ e), some z => match P.info? e with
      | some ie => match resolveParts (fun i => some (i * ie.size, ie.size)) parts.toList with
        | some l => .bld z.cells l
        | none => .hard (strip o)
      | none => .hard (strip o)
    | _, _ => .hard (strip o)
  | .buildSlice t n parts => match P.underlying t with
    | some (.slice e) => match P.info? e with
      | some ie => match ie.zero with
        | some z => match resolveParts (fun i => some (i * ie.size, ie.size)) parts.toList with
          | some l => if n * ie.size ≤ 4096 then .bsl e ((Array.range (n * ie.size)).map (z.cells[· % z.cells.size]!)) n l else .hard (strip o)
          | none => .hard (strip o)
        | none => .hard (strip o)
      | none => .hard (strip o)
    | _ => .hard (strip o)
  | .makeMap _ none => .mkmap
  | .makeInterface t x => match P.underlying t with
    | some (.interface _) => .hard (strip o)
    | some _ => .mkif t x
    | none => .hard (strip o)
  | .makeFunc fn first captured => .mkfn fn first.toList captured.toList
  | .call { callee := .builtin .len, args, argTypes } => match args.toList, argTypes.toList with
    | [x], [t] => match P.underlying t with
      | some (.slice _) => .len 0 x
      | some .string => .len 1 x
      | some (.map _ _) => .len 2 x
      | _ => .hard (strip o)
    | _, _ => .hard (strip o)
  | .call { callee := .value (.func f), args, .. } => if callable P f then .call f args.toList else .hard (strip o)
  | .slice t x lo hi mx => match P.underlying t with
    | some (.slice e) => if (P.info? e).isSome then .slc (P.cellsOf e) x lo hi mx else .hard (strip o)
    | some (.array n e) => if (P.info? e).isSome then .slca n (P.cellsOf e) x lo hi mx else .hard (strip o)
    | _ => .hard (strip o)
  | .lookup t x i ok => match P.underlying t with
    | some (.map k e) => match P.underlying k, (P.info? e).bind (·.zero) with
      | some (.int kk), some z => .lkp kk z x i ok
      | _, _ => .hard (strip o)
    | _ => .hard (strip o)
  | .convert s d x => match P.underlying s, P.underlying d with
    | some (.int _), some (.int k) => .conv k x
    | _, _ => .hard (strip o)
  | .typeAssert x _ t ok => match P.underlying t, (P.info? t).bind (·.zero) with
    | some (.interface _), _ => .hard (strip o)
    | some _, some z => .ta t z x ok
    | _, _ => .hard (strip o)
  | _ => .hard (strip o)

theorem info_of_underlying {P : Program} {t : TypeId} {d : TypeDesc} (h : P.underlying t = some d) : (P.info? t).isSome = true := by
  unfold Program.underlying at h
  cases hi : P.info? t with
  | none => simp [hi] at h
  | some i => rfl
theorem run_sizeOf' {P : Program} {t : TypeId} (h : (P.info? t).isSome = true) (w : World) : (sizeOf t).run P w = .ok (P.cellsOf t) w := by
  cases hi : P.info? t with
  | none => simp [hi] at h
  | some i => simp [sizeOf, typeInfo, hi, Program.cellsOf]
theorem run_isAgg {P : Program} {t : TypeId} {d : TypeDesc} (h : P.underlying t = some d) (w : World) : (isAgg t).run P w = .ok (isAggD d) w := by
  cases d <;> simp [isAgg, run_underlying h, isAggD]
theorem run_loadN {P : Program} (w : World) (a : Addr) : ∀ (n i : Nat) (acc : Array Value) (l : List Value), loadN w a i n = some l →
    (loadCellsFrom a i n acc).run P w = .ok (acc ++ l.toArray) w := by
  intro n
  induction n with
  | zero => intro i acc l h; simp [loadN] at h; subst h; simp [loadCellsFrom]
  | succ n ih =>
    intro i acc l h
    simp only [loadN] at h
    cases hc : w.cell? (a.add i) with
    | none => simp [hc] at h
    | some v =>
      simp only [hc, Option.map_eq_some_iff] at h
      obtain ⟨l', h1, rfl⟩ := h
      simp [loadCellsFrom, hc, ih _ _ _ h1]
theorem isCell_cells {v : Value} (h : isCell v = true) : v.cells = #[v] := by cases v <;> simp_all [isCell, Value.cells]
theorem isCell_one {v : Value} (h : isCell v = true) : v.oneCell' = true := by cases v <;> simp_all [isCell, Value.oneCell']
theorem run_store1 {P : Program} {w : World} {a : Addr} {v u : Value} (hv : isCell v = true) (hc : w.cell? a = some u) (hf : w.frozen? a = false) :
    (store a v).run P w = .ok () (w.setCell a v) := by
  rw [run_store P w a v _ (isCell_one hv)]; simp [hc, hf]
theorem run_storeN {P : Program} (a : Addr) : ∀ (l : List Value) (i : Nat) (w w' : World), storeN w a i l = some w' →
    (storeCells a l i).run P w = .ok () w' := by
  intro l
  induction l with
  | nil => intro i w w' h; simp [storeN] at h; subst h; simp [storeCells]
  | cons v l ih =>
    intro i w w' h
    simp only [storeN] at h
    split at h
    · rename_i hc
      simp only [Bool.and_eq_true, Bool.not_eq_true', Option.isSome_iff_exists] at hc
      obtain ⟨⟨h1, u, h2⟩, h3⟩ := hc
      simp [storeCells, run_store1 (P := P) h1 h2 h3, ih _ _ _ h]
    · cases h
theorem eqGuard_int (op : BinOp) (t : TypeId) (x y : Operand) (k k' : IntKind) (a b : Int) : eqGuard op t x y (.int k a) (.int k' b) = pure () := by cases op <;> rfl
theorem eqGuard_bool (op : BinOp) (t : TypeId) (x y : Operand) (a b : Bool) : eqGuard op t x y (.bool a) (.bool b) = pure () := by cases op <;> rfl

theorem run_binV {P : Program} {op : BinOp} {t : TypeId} {x y : Operand} {v u r : Value} (w : World) (h : binV op v u = some r) :
    (do eqGuard op t x y v u; binOp op t v u : Sem Value).run P w = .ok r w := by
  cases v <;> cases u <;> simp only [binV] at h <;> try (cases h; done)
  case int k a k' b =>
    rw [eqGuard_int]
    simp only [Sem.run_bind, Sem.run_pure, Result.andThen_ok]
    by_cases hk : k = k'
    · subst hk
      simp only [if_true] at h
      cases op <;> simp only [Option.some.injEq, reduceCtorEq] at h
      case quo => split at h; · cases h
                  · rename_i hb; simp at h; subst h; simp [binOp, Op.intDiv, hb]
      case rem => split at h; · cases h
                  · rename_i hb; simp at h; subst h; simp [binOp, Op.intDiv, hb]
      case shl => split at h; · cases h
                  · rename_i hb; simp at h; subst h; simp [binOp, Op.shift, hb]
      case shr => split at h; · cases h
                  · rename_i hb; simp at h; subst h; simp [binOp, Op.shift, hb]
      case eql => subst h; simp [binOp, Op.intCmp]; rfl
      case neq => subst h; simp [binOp, Op.intCmp]; rfl
      all_goals (subst h; simp [binOp, Op.intArith, Op.intCmp, Op.intBits])
    · simp only [if_neg hk] at h
      cases op <;> simp only [reduceCtorEq] at h
      case shl => split at h; · cases h
                  · rename_i hb; simp at h; subst h; simp [binOp, Op.shift, hb]
      case shr => split at h; · cases h
                  · rename_i hb; simp at h; subst h; simp [binOp, Op.shift, hb]

theorem run_nilIn {P : Program} {t : TypeId} {d : TypeDesc} {v : Value} {c : Operand} {k : Nat} {b : Bool} (n : Nat) (e : Env) (w : World) (hu : P.underlying t = some d) (hc : nilC d c = some k)
    (hn : nilV k v = some b) : (Op.equalIn (n + 1) t v (ev e c)).run P w = .ok b w := by
  unfold nilC at hc
  split at hc <;> simp only [Option.some.injEq, reduceCtorEq] at hc <;> subst hc <;> cases v <;> simp only [nilV, Option.some.injEq, reduceCtorEq] at hn
  · rename_i a; subst hn; cases a <;> simp [Op.equalIn, run_underlying hu, ev]
  · rename_i a _ _; subst hn; cases a <;> simp [Op.equalIn, run_underlying hu, ev]
  · rename_i a; subst hn; cases a <;> simp [Op.equalIn, run_underlying hu, ev]
theorem run_nilV {P : Program} {t : TypeId} {d : TypeDesc} {v : Value} {c : Operand} {k : Nat} {b : Bool} (e : Env) (w : World) (hu : P.underlying t = some d) (hc : nilC d c = some k)
    (hn : nilV k v = some b) : (Op.equal t v (ev e c)).run P w = .ok b w := run_nilIn 9999 e w hu hc hn
theorem nilV_guard {v u : Value} {k : Nat} {b : Bool} (op : BinOp) (t : TypeId) (x y : Operand) (hn : nilV k v = some b) : eqGuard op t x y v u = pure () := by
  cases v <;> simp only [nilV, reduceCtorEq] at hn <;> cases op <;> rfl

theorem findNow_int (k kk : IntKind) (n : Int) : ∀ (l : List MapEntry) (i : Nat), intKeys k l = true →
    ∃ r, Instr.findNow (.int kk) (.int k n) l i = some r ∧ r.map (·.2) = findInt k n l := by
  intro l
  induction l with
  | nil => intro i _; exact ⟨none, rfl, rfl⟩
  | cons e l ih =>
    intro i h
    simp only [intKeys, List.all_cons, Bool.and_eq_true] at h
    obtain ⟨h1, h2⟩ := h
    cases hk : e.key <;> simp only [hk] at h1 <;> try (cases h1; done)
    case int k' m =>
      have h1 : k = k' := by simpa using h1
      subst h1
      obtain ⟨r, hr, hm⟩ := ih (i + 1) h2
      by_cases hnm : n = m
      · subst hnm
        exact ⟨some (i, e.val), by simp [Instr.findNow, hk, Instr.sameNow], by simp [findInt, hk]⟩
      · have hb : (n == m) = false := by simpa using hnm
        exact ⟨r, by simp [Instr.findNow, hk, Instr.sameNow, hb, hr], by simp [findInt, hk, hnm, hm]⟩

theorem run_checkKey_int {P : Program} {t : TypeId} {kk : IntKind} (b : Bool) (k : IntKind) (n : Int) (m : Nat) (w : World) (h : P.underlying t = some (.int kk)) :
    (Instr.checkKey b (m + 1) t (.int k n)).run P w = .ok () w := by
  simp [Instr.checkKey, run_underlying h]

theorem run_getMap {P : Program} {w : World} {b : Nat} {es : Array MapEntry} {c : Nat} (h : w.heap[b]? = some (.map es c)) : (getObj b).run P w = .ok (.map es c) w := by
  simp [getObj, Sem.run, h]
theorem run_findKey {P : Program} {tk : TypeId} {kk k : IntKind} {n : Int} {l : List MapEntry} (w : World) (hk : P.underlying tk = some (.int kk)) (hint : intKeys k l = true) :
    ∃ r, (Instr.findKey tk (.int k n) l).run P w = .ok r w ∧ r.map (·.2) = findInt k n l := by
  obtain ⟨q, hq, hqm⟩ := findNow_int k kk n l 0 hint
  exact ⟨q, by simp [Instr.findKey, run_underlying hk, hq], hqm⟩
theorem run_zeroValue {P : Program} {t : TypeId} {z : Value} (w : World) (hz : (P.info? t).bind (·.zero) = some z) : (zeroValue t).run P w = .ok z w := by
  cases hi : P.info? t with
  | none => simp [hi] at hz
  | some ii => simp [hi] at hz; simp [zeroValue, typeInfo, hi, hz]

theorem run_lkpV {P : Program} {t tk te : TypeId} {kk : IntKind} {z v u r : Value} {ok : Bool} (w : World) (hu : P.underlying t = some (.map tk te)) (hk : P.underlying tk = some (.int kk))
    (hz : (P.info? te).bind (·.zero) = some z) (h : lkpV w z ok v u = some r) : (Instr.lookup t v u ok).run P w = .ok r w := by
  have main : ∀ (es : Array MapEntry) (k : IntKind) (n : Int), intKeys k es.toList = true →
      (match findInt k n es.toList with
        | some v => some (if ok then .tuple #[v, .bool true] else v)
        | none => some (if ok then .tuple #[z, .bool false] else z)) = some r →
      ((do Instr.checkKey es.isEmpty 10000 tk (.int k n)
           let x ← Instr.findKey tk (.int k n) es.toList
           let (v, o) ← match x with
             | some (_, v) => pure (v, true)
             | none => pure (← zeroValue te, false)
           pure (if ok then .tuple #[v, .bool o] else v) : Sem Value)).run P w = .ok r w := by
    intro es k n hint hr
    obtain ⟨q, hq, hqm⟩ := run_findKey (P := P) (n := n) w hk hint
    rw [Sem.run_bind, run_checkKey_int (kk := kk) _ _ _ 9999 w hk, Result.andThen_ok, Sem.run_bind, hq, Result.andThen_ok]
    cases q with
    | none =>
      simp at hqm
      rw [← hqm] at hr
      simp at hr
      simp [run_zeroValue w hz, hr]
    | some iv =>
      simp at hqm
      rw [← hqm] at hr
      simp at hr
      simp [hr]
  unfold lkpV at h
  split at h
  · rename_i rr k n
    cases rr with
    | none =>
      simp only at h
      split at h
      · rename_i hint
        have := main #[] k n hint h
        simp only [Instr.lookup, Sem.run_bind, run_underlying hu, Result.andThen_ok, Sem.run_pure] at this ⊢
        exact this
      · cases h
    | some b =>
      cases hb : w.heap[b]? with
      | none => simp [hb] at h
      | some o =>
        cases o <;> simp only [hb, reduceCtorEq] at h
        case map es c =>
          split at h
          · rename_i hint
            have := main es k n hint h
            simp only [Instr.lookup, Sem.run_bind, run_underlying hu, Result.andThen_ok, Sem.run_pure, run_getMap hb] at this ⊢
            exact this
          · cases h
  · cases h

theorem fill_eq {e : Env} {place : Nat → Option (Nat × Nat)} : ∀ (l : List (Nat × Operand)) (r : List (Nat × Nat × Operand)) (z : Array Value), resolveParts place l = some r →
    Instr.fill place z (l.map fun (i, x) => (i, ev e x)) = fillV e z r := by
  intro l
  induction l with
  | nil => intro r z h; simp [resolveParts] at h; subst h; rfl
  | cons p l ih =>
    intro r z h
    obtain ⟨i, x⟩ := p
    simp only [resolveParts, List.mapM_cons, Option.bind_eq_bind, Option.pure_def] at h
    cases hp : place i with
    | none => simp [hp] at h
    | some os =>
      obtain ⟨o, s⟩ := os
      simp only [hp, Option.map_some, Option.bind_some] at h
      cases hr : resolveParts place l with
      | none => rw [show l.mapM _ = resolveParts place l from rfl, hr] at h; simp at h
      | some r' =>
        rw [show l.mapM _ = resolveParts place l from rfl, hr] at h
        simp at h
        subst h
        simp only [List.map_cons, Instr.fill, hp, fillV]
        split
        · rfl
        · exact ih r' _ hr

theorem run_bndV {P : Program} {v : Value} {y n : Nat} {code : BoundsCode} (w : World) (h : bndV v y = some n) : (Instr.sliceBound v y code).run P w = .ok n w := by
  unfold bndV at h
  split at h
  · split at h
    · rename_i hc; simp at h; subst h; simp [Instr.sliceBound, asIntOf, hc.1, hc.2]
    · cases h
  · cases h
theorem run_sliceBounds {P : Program} {b : Bool} {len cap : Nat} {lo hi mx : Option Value} {m h l : Nat} (w : World)
    (hm : (match mx with | some v => bndV v cap | none => some cap) = some m)
    (hh : (match hi with | some v => bndV v m | none => if mx.isSome then none else some len) = some h)
    (hl : (match lo with | some v => bndV v h | none => some 0) = some l) :
    (Instr.sliceBounds b len cap lo hi mx).run P w = .ok (l, h, m) w := by
  cases mx with
  | none =>
    simp at hm; subst hm
    cases hi with
    | none =>
      simp at hh; subst hh
      cases lo with
      | none => simp at hl; subst hl; simp [Instr.sliceBounds]
      | some v => simp at hl; simp [Instr.sliceBounds, run_bndV w hl]
    | some u =>
      simp at hh
      cases lo with
      | none => simp at hl; subst hl; simp [Instr.sliceBounds, run_bndV w hh]
      | some v => simp at hl; simp [Instr.sliceBounds, run_bndV w hh, run_bndV w hl]
  | some x =>
    simp at hm
    cases hi with
    | none => simp at hh
    | some u =>
      simp at hh
      cases lo with
      | none => simp at hl; subst hl; simp [Instr.sliceBounds, run_bndV w hm, run_bndV w hh]
      | some v => simp at hl; simp [Instr.sliceBounds, run_bndV w hm, run_bndV w hh, run_bndV w hl]

theorem slcV_spec {size len cap : Nat} {a : Option Addr} {lo hi mx : Option Value} {r : Value} (h : slcV size a len cap lo hi mx = some r) :
    ∃ m h l, (match mx with | some v => bndV v cap | none => some cap) = some m ∧ (match hi with | some v => bndV v m | none => if mx.isSome then none else some len) = some h ∧
      (match lo with | some v => bndV v h | none => some 0) = some l ∧ r = .slice (if m = l then a else a.map (·.add (l * size))) (h - l) (m - l) := by
  unfold slcV at h
  split at h
  · cases h
  · rename_i m hm
    split at h
    · cases h
    · rename_i hh hhe
      split at h
      · cases h
      · rename_i l hl
        simp at h
        exact ⟨m, hh, l, hm, hhe, hl, h.symm⟩

theorem equal_bool {P : Program} {t : TypeId} (w : World) (hu : P.underlying t = some .bool) (a b : Bool) : (Op.equal t (.bool a) (.bool b)).run P w = .ok (a == b) w := by
  have : ∀ n, (Op.equalIn (n + 1) t (.bool a) (.bool b)).run P w = .ok (a == b) w := fun n => by simp [Op.equalIn, run_underlying hu]
  exact this 9999

theorem optK_spec {α : Type} {o : Option α} {K : α → Prop} (h : optK o K) : ∃ v, o = some v ∧ K v := by
  cases o with
  | none => exact h.elim
  | some v => exact ⟨v, rfl, h⟩

/-- The looked-up operations are sound for the model's. -/
theorem symOp_sound {P : Program} (o : Oper) (e : Env) (w : World) (K : Value → World → Prop) (h : symOp P (toOp P o) e w K) : softK ((execOp (ev e) o).run P w) K := by
  obtain ⟨d, op, ty, pos, af, g⟩ := o
  cases op with
  | move x => simpa [toOp, symOp, valK, execOp, softK] using h
  | assign x => simpa [toOp, symOp, valK, execOp, softK] using h
  | pick c x y =>
    simp only [toOp, symOp, valK] at h
    split at h
    · rename_i hc; simpa [execOp, softK, asBool, hc] using h
    · rename_i hc; simpa [execOp, softK, asBool, hc] using h
    · exact h.elim
  | load t x =>
    simp only [toOp] at h
    cases hu : P.underlying t with
    | none => simp only [hu, symOp] at h
    | some d =>
      simp only [hu] at h
      by_cases hd : isAggD d = true
      · simp only [if_pos hd, symOp, valK] at h
        split at h
        · rename_i a ha
          obtain ⟨u, hl, hk⟩ := optK_spec h
          have := run_loadN (P := P) w a _ 0 #[] u hl
          simpa [execOp, Instr.loadAt, Instr.sureAddr, ha, loadVar, run_isAgg hu, hd, run_sizeOf' (info_of_underlying hu), loadCells, this, softK] using hk
        · exact h.elim
      · simp only [if_neg hd, symOp, valK] at h
        split at h
        · rename_i a ha
          obtain ⟨u, hl, hk⟩ := optK_spec h
          simp only [Bool.not_eq_true] at hd
          simpa [execOp, Instr.loadAt, Instr.sureAddr, ha, loadVar, run_isAgg hu, hd, hl, softK] using hk
        · exact h.elim
  | store t x y =>
    simp only [toOp] at h
    cases hu : P.underlying t with
    | none => simp only [hu, symOp] at h
    | some d =>
      simp only [hu] at h
      by_cases hd : isAggD d = true
      · simp only [if_pos hd, symOp, valK] at h
        split at h
        · rename_i a ha
          obtain ⟨w', hl, hk⟩ := optK_spec h
          split at hl
          · rename_i hsz
            have hss := run_storeN (P := P) a _ _ _ _ hl
            simp only [Array.size_eq_length_toList] at hsz
            have hst : (storeVar t a (ev e y)).run P w = .ok () w' := by
              unfold storeVar
              rw [Sem.run_bind, run_sizeOf' (info_of_underlying hu), Result.andThen_ok, if_neg (by simpa using hsz)]
              exact hss
            simpa [execOp, Instr.storeAt, Instr.sureAddr, ha, hst, softK] using hk
          · cases hl
        · exact h.elim
      · simp only [if_neg hd] at h
        by_cases h1 : P.cellsOf t = 1
        · simp only [if_pos h1, symOp, valK] at h
          split at h
          · rename_i a ha
            obtain ⟨w', hl, hk⟩ := optK_spec h
            split at hl
            · rename_i hc
              simp only [Bool.and_eq_true, Bool.not_eq_true', Option.isSome_iff_exists] at hc
              obtain ⟨⟨hi1, u, hi2⟩, hi3⟩ := hc
              simp at hl
              subst hl
              simpa [execOp, Instr.storeAt, Instr.sureAddr, ha, storeVar, run_sizeOf' (info_of_underlying hu), h1, isCell_cells hi1, storeCells, Addr.add, run_store1 (P := P) hi1 hi2 hi3, softK] using hk
            · cases hl
          · exact h.elim
        · simp only [if_neg h1, symOp] at h
  | nilCheck x =>
    simp only [toOp, symOp] at h
    obtain ⟨v, hv, hK⟩ := optK_spec h
    unfold nilF at hv
    split at hv
    · rename_i a ha; simp at hv; subst hv; simpa [execOp, ha, softK] using hK
    · rename_i f c d ha; simp at hv; subst hv; simpa [execOp, ha, softK] using hK
    · rename_i name f c ha
      split at hv
      · rename_i t u hf
        split at hv
        · rename_i hok
          simp at hv; subst hv
          have hr := hok w
          simp only [execOp, ha, hf, Sem.run_bind, run_program, Result.andThen_ok, hr]
          exact hK
        · cases hv
      · cases hv
    · cases hv
  | binOp op t x y yt =>
    simp only [toOp] at h
    cases hu : P.underlying t with
    | none => simp only [hu, symOp] at h
    | some d =>
      cases d with
      | int k =>
        simp only [hu, symOp, valK] at h
        obtain ⟨r, hr, hk⟩ := optK_spec h
        have := run_binV (P := P) (t := t) (x := x) (y := y) w hr
        simp only [execOp, Sem.run_bind, Sem.run_bind] at this ⊢
        simpa [this, softK] using hk
      | bool =>
        simp only [hu] at h
        have key : ∀ neg, op = (if neg then .neq else .eql) → symOp P (.beq neg x y) e w K → softK ((execOp (ev e) ⟨d, .binOp op t x y yt, ty, pos, af, g⟩).run P w) K := by
          intro neg hop hs
          simp only [symOp, valK] at hs
          split at hs
          · rename_i a b ha hb
            cases neg <;> simp at hop <;> subst hop
            · simpa [execOp, ha, hb, eqGuard_bool, binOp, equal_bool w hu, softK] using hs
            · simpa [execOp, ha, hb, eqGuard_bool, binOp, equal_bool w hu, softK] using hs
          · exact hs.elim
        cases op <;> simp only [symOp] at h
        · exact key false rfl h
        · exact key true rfl h
      | _ =>
        simp only [hu] at h
        split at h
        · rename_i k hk
          have key : ∀ neg, op = (if neg then .neq else .eql) → symOp P (.eqn k neg x) e w K → softK ((execOp (ev e) ⟨d, .binOp op t x y yt, ty, pos, af, g⟩).run P w) K := by
            intro neg hop hs
            simp only [symOp, valK] at hs
            obtain ⟨b, hb, hK⟩ := optK_spec hs
            have hrun := run_nilV (P := P) e w hu hk hb
            have hgd := nilV_guard (u := ev e y) op t x y hb
            have hb2 : (binOp op t (ev e x) (ev e y)).run P w = .ok (.bool (if neg then !b else b)) w := by
              revert hb hrun
              generalize ev e x = vx
              generalize ev e y = vy
              intro hb hrun
              cases vx <;> simp only [nilV, reduceCtorEq] at hb <;> cases neg <;> simp at hop <;> subst hop <;> simp [binOp, hrun]
            simpa [execOp, hgd, hb2, softK] using hK
          cases op <;> simp only [symOp] at h
          · exact key false rfl h
          · exact key true rfl h
        · simp only [symOp] at h
  | unOp op t x =>
    simp only [toOp, symOp, valK] at h
    split at h
    · rename_i b hb; simpa [execOp, hb, Op.unary, softK] using h
    · rename_i k n hb; simpa [execOp, hb, Op.unary, Op.intArith, softK] using h
    · exact h.elim
  | fieldAddr s x f =>
    simp only [toOp] at h
    split at h
    · rename_i fs hu
      split at h
      · rename_i fd hf
        split at h
        · rename_i hc
          simp only [Bool.and_eq_true, decide_eq_true_eq] at hc
          simp only [symOp, valK] at h
          split at h
          · rename_i a ha
            have hp : (fieldPlace a fd).run P w = .ok (a.add fd.offset) w := by
              unfold fieldPlace
              rw [Sem.run_bind, run_sizeOf' hc.1, Result.andThen_ok, if_neg hc.2]
              rfl
            simpa [execOp, Instr.fieldAt, run_underlying hu, hf, Instr.sureAddr, ha, hp, softK] using h
          · exact h.elim
        · simp only [symOp] at h
      · simp only [symOp] at h
    · simp only [symOp] at h
  | field s x f =>
    simp only [toOp] at h
    split at h
    · rename_i fs hu
      split at h
      · rename_i fd hf
        split at h
        · rename_i d hd
          simp only [symOp, valK] at h
          split at h
          · rename_i cs hx
            by_cases hg : isAggD d = true
            · rw [if_pos hg] at h
              simpa [execOp, Instr.field, run_underlying hu, hf, asAgg, hx, part, run_isAgg hd, hg, run_sizeOf' (info_of_underlying hd), softK] using h
            · rw [if_neg hg] at h
              obtain ⟨u, hcu, hK⟩ := optK_spec h
              simp only [Bool.not_eq_true] at hg
              simpa [execOp, Instr.field, run_underlying hu, hf, asAgg, hx, part, run_isAgg hd, hg, hcu, softK] using hK
          · exact h.elim
        · simp only [symOp] at h
      · simp only [symOp] at h
    · simp only [symOp] at h
  | indexAddr t x i =>
    simp only [toOp] at h
    split at h
    · rename_i el hu
      split at h
      · rename_i hi
        simp only [symOp, valK] at h
        split at h
        · rename_i a len cap k n hx hn
          obtain ⟨a', ha', hK⟩ := optK_spec h
          split at ha'
          · rename_i hc
            simp at ha'; subst ha'
            have hrun : (Instr.indexAt t (ev e x) (ev e i)).run P w = .ok (.pointer (some (a.add (n.toNat * P.cellsOf el)))) w := by
              simp only [Instr.indexAt, hx, hn, asIntOf, Sem.run_bind, Sem.run_pure, Result.andThen_ok, run_underlying hu]
              simp [hc.1, hc.2, run_sizeOf' hi]
            simpa [execOp, hrun, softK] using hK
          · cases ha'
        · exact h.elim
      · simp only [symOp] at h
    · rename_i n el hu
      split at h
      · rename_i hi
        simp only [Bool.and_eq_true, decide_eq_true_eq] at hi
        simp only [symOp, valK] at h
        split at h
        · rename_i a k m hx hn
          obtain ⟨a', ha', hK⟩ := optK_spec h
          split at ha'
          · rename_i hc
            simp at ha'; subst ha'
            have hrun : (Instr.indexAt t (ev e x) (ev e i)).run P w = .ok (.pointer (some (a.add (m.toNat * P.cellsOf el)))) w := by
              simp only [Instr.indexAt, hx, hn, asIntOf, Instr.sureAddr, Sem.run_bind, Sem.run_pure, Result.andThen_ok, run_underlying hu]
              simp [hc.1, hc.2, run_sizeOf' hi.1]
            simpa [execOp, hrun, softK] using hK
          · cases ha'
        · exact h.elim
      · simp only [symOp] at h
    · simp only [symOp] at h
  | index t x i =>
    simp only [toOp] at h
    split at h
    · rename_i n el hu
      split at h
      · rename_i d hd
        simp only [symOp, valK] at h
        split at h
        · rename_i cs k m hx hn
          split at h
          · rename_i hc
            by_cases hg : isAggD d = true
            · rw [if_pos hg] at h
              simpa [execOp, Instr.index, run_underlying hu, hx, hn, asIntOf, hc.1, hc.2, part, run_isAgg hd, hg, run_sizeOf' (info_of_underlying hd), softK] using h
            · rw [if_neg hg] at h
              obtain ⟨u, hcu, hK⟩ := optK_spec h
              simp only [Bool.not_eq_true] at hg
              simpa [execOp, Instr.index, run_underlying hu, hx, hn, asIntOf, hc.1, hc.2, part, run_isAgg hd, hg, run_sizeOf' (info_of_underlying hd), hcu, softK] using hK
          · exact h.elim
        · exact h.elim
      · simp only [symOp] at h
    · rename_i hu
      simp only [symOp, valK] at h
      split at h
      · rename_i s k m hx hn
        split at h
        · rename_i hc
          obtain ⟨u, hcu, hK⟩ := optK_spec h
          simpa [execOp, Instr.index, run_underlying hu, hx, hn, asIntOf, hc, hcu, softK] using hK
        · exact h.elim
      · exact h.elim
    · simp only [symOp] at h
  | extract x i =>
    simp only [toOp, symOp, valK] at h
    split at h
    · rename_i vs hx
      obtain ⟨u, hcu, hK⟩ := optK_spec h
      simpa [execOp, Instr.extract, hx, hcu, softK] using hK
    · exact h.elim
  | box t x =>
    simp only [toOp, symOp, valK] at h
    exact h
  | alloc t =>
    simp only [toOp] at h
    split at h
    · rename_i z hz
      simp only [symOp] at h
      simp only [execOp, Instr.alloc, Sem.run_bind, run_zeroValue w hz, Result.andThen_ok]
      exact h
    · simp only [symOp] at h
  | build t parts =>
    simp only [toOp] at h
    split at h
    · rename_i fs z hu hz
      split at h
      · rename_i ps hps
        split at h
        · rename_i l hl
          simp only [symOp] at h
          obtain ⟨cs, hcs, hK⟩ := optK_spec h
          have hb : P.built t (parts.map fun (i, x) => (i, ev e x)).toList = some cs := by
            obtain ⟨it, hi, hzz⟩ := Option.bind_eq_some_iff.1 hz
            unfold Program.built
            unfold places at hps
            simp only [hi, hu, hzz, hps]
            rw [← hcs, ← fill_eq _ _ _ hl]
            simp
          have hrun := run_build w t _ cs hb
          simpa [execOp, hrun, softK] using hK
        · simp only [symOp] at h
      · simp only [symOp] at h
    · rename_i n el z hu hz
      split at h
      · rename_i ie hie
        split at h
        · rename_i l hl
          simp only [symOp] at h
          obtain ⟨cs, hcs, hK⟩ := optK_spec h
          have hb : P.built t (parts.map fun (i, x) => (i, ev e x)).toList = some cs := by
            obtain ⟨it, hi, hzz⟩ := Option.bind_eq_some_iff.1 hz
            unfold Program.built
            simp only [hi, hu, hzz, hie]
            rw [← hcs, ← fill_eq _ _ _ hl]
            simp
          have hrun := run_build w t _ cs hb
          simpa [execOp, hrun, softK] using hK
        · simp only [symOp] at h
      · simp only [symOp] at h
    · simp only [symOp] at h
  | buildSlice t n parts =>
    simp only [toOp] at h
    split at h
    · rename_i el hu
      split at h
      · rename_i ie hie
        split at h
        · rename_i z hz
          split at h
          · rename_i l hl
            split at h
            · rename_i hle
              simp only [symOp] at h
              obtain ⟨cs, hcs, hK⟩ := optK_spec h
              have hz' : (zeroValue el).run P w = .ok z w := run_zeroValue w (by simp [hie, hz])
              have hs' : (sizeOf el).run P w = .ok ie.size w := by simp [sizeOf, typeInfo, hie]
              rw [← fill_eq _ _ _ hl] at hcs
              have hrun : (Instr.buildSlice t n (parts.map fun (i, x) => (i, ev e x))).run P w = .ok (.slice (some ⟨w.heap.size, 0, none⟩) n n) (w.alloc (.cells cs el)) := by
                simp only [Instr.buildSlice, Sem.run_bind, run_underlying hu, Result.andThen_ok, hs']
                rw [if_neg (by have : (4096 : Nat) ≤ 2 ^ 24 := by decide
                               omega)]
                by_cases h0 : n * ie.size = 0
                · have hcs' : Instr.fill (fun i => some (i * ie.size, ie.size)) ((Array.range (n * ie.size)).map fun x => (#[] : Array Value)[x % (#[] : Array Value).size]!) (parts.toList.map fun (i, x) => (i, ev e x)) = some cs := by
                    rw [← hcs]; congr 1; simp [h0]
                  simp only [Sem.run_bind, if_pos h0, Sem.run_pure, Result.andThen_ok, Array.toList_map, hcs']
                  rfl
                · simp only [Sem.run_bind, if_neg h0, hz', Sem.run_pure, Result.andThen_ok, Array.toList_map, hcs]
                  rfl
              simp only [execOp, Sem.run_bind, hrun, Result.andThen_ok, Sem.run_pure, softK]
              exact hK
            · simp only [symOp] at h
          · simp only [symOp] at h
        · simp only [symOp] at h
      · simp only [symOp] at h
    · simp only [symOp] at h
  | makeMap t r =>
    cases r with
    | none => simp only [toOp, symOp] at h; exact h
    | some r => simp only [toOp, symOp] at h
  | makeInterface t x =>
    simp only [toOp] at h
    split at h
    · simp only [symOp] at h
    · rename_i d hne hu
      simp only [symOp, valK] at h
      have hrun : (Instr.makeInterface t (ev e x)).run P w = .ok (.iface t (ev e x)) w := by
        simp only [Instr.makeInterface, Sem.run_bind, run_underlying hu, Result.andThen_ok]
        cases d <;> first | rfl | exact absurd rfl (hne _)
      simpa [execOp, hrun, softK] using h
    · simp only [symOp] at h
  | makeFunc fn first captured =>
    simp only [toOp, symOp, valK] at h
    rw [← Array.toList_map, ← Array.toList_map, Array.toArray_toList, Array.toArray_toList] at h
    exact h
  | call c =>
    obtain ⟨cal, args, ats⟩ := c
    cases cal with
    | builtin b =>
      cases b <;> try (simp only [toOp, symOp] at h; done)
      simp only [toOp] at h
      split at h
      · rename_i x t hx ht
        have hargs : args = #[x] := by rw [← Array.toArray_toList (xs := args), hx]
        have hats : ats = #[t] := by rw [← Array.toArray_toList (xs := ats), ht]
        subst hargs; subst hats
        split at h
        · rename_i el hu
          simp only [symOp, valK] at h
          split at h <;> try (first | exact h.elim | (exfalso; omega))
          rename_i a n c _ hx'
          simpa [execOp, resolve, invoke, builtin, Builtin.len_, run_underlying hu, hx', goInt, softK] using h
        · rename_i hu
          simp only [symOp, valK] at h
          split at h <;> try (first | exact h.elim | (exfalso; omega))
          rename_i s _ hx'
          simpa [execOp, resolve, invoke, builtin, Builtin.len_, run_underlying hu, hx', goInt, softK] using h
        · rename_i k el hu
          simp only [symOp, valK] at h
          split at h <;> try (first | exact h.elim | (exfalso; omega))
          · rename_i _ hx'
            simpa [execOp, resolve, invoke, builtin, Builtin.len_, run_underlying hu, hx', goInt, softK] using h
          · rename_i r _ hx'
            split at h
            · rename_i es c hb
              simpa [execOp, resolve, invoke, builtin, Builtin.len_, run_underlying hu, hx', run_getMap hb, goInt, softK] using h
            · exact h.elim
        · simp only [symOp] at h
      · simp only [symOp] at h
    | value f => cases f <;> simp only [toOp] at h <;> first | (split at h <;> simp only [symOp] at h) | simp only [symOp] at h
    | invoke r m => simp only [toOp, symOp] at h
  | slice t x lo hi mx =>
    simp only [toOp] at h
    split at h
    · rename_i el hu
      split at h
      · rename_i hi'
        simp only [symOp, valK] at h
        split at h
        · rename_i a len cap hx
          obtain ⟨r, hr, hK⟩ := optK_spec h
          obtain ⟨m, hh, l, h1, h2, h3, rfl⟩ := slcV_spec hr
          have hb := run_sliceBounds (P := P) (b := true) w h1 h2 h3
          have hrun : (Instr.sliceAt t (ev e x) (lo.map (ev e)) (hi.map (ev e)) (mx.map (ev e))).run P w = .ok (.slice (if m = l then a else a.map (·.add (l * P.cellsOf el))) (hh - l) (m - l)) w := by
            simp only [Instr.sliceAt, Sem.run_bind, run_underlying hu, Result.andThen_ok, Instr.slice, hx, hb, run_sizeOf' hi', Sem.run_pure]
          simpa [execOp, hrun, softK] using hK
        · exact h.elim
      · simp only [symOp] at h
    · rename_i n el hu
      split at h
      · rename_i hi'
        simp only [symOp, valK] at h
        split at h
        · rename_i a hx
          obtain ⟨r, hr, hK⟩ := optK_spec h
          obtain ⟨m, hh, l, h1, h2, h3, rfl⟩ := slcV_spec hr
          have hb := run_sliceBounds (P := P) (b := false) w h1 h2 h3
          have hrun : (Instr.sliceAt t (ev e x) (lo.map (ev e)) (hi.map (ev e)) (mx.map (ev e))).run P w = .ok (.slice (if m = l then some a else (some a).map (·.add (l * P.cellsOf el))) (hh - l) (m - l)) w := by
            simp only [Instr.sliceAt, Sem.run_bind, run_underlying hu, Result.andThen_ok, hx, Instr.sureAddr, hb, run_sizeOf' hi', Sem.run_pure]
            split <;> rfl
          simpa [execOp, hrun, softK] using hK
        · exact h.elim
      · simp only [symOp] at h
    · simp only [symOp] at h
  | lookup t x i ok =>
    simp only [toOp] at h
    split at h
    · rename_i k el hu
      split at h
      · rename_i kk z hk hz
        simp only [symOp, valK] at h
        obtain ⟨r, hr, hK⟩ := optK_spec h
        have hrun := run_lkpV (P := P) w hu hk hz hr
        simpa [execOp, hrun, softK] using hK
      · simp only [symOp] at h
    · simp only [symOp] at h
  | convert s d x =>
    simp only [toOp] at h
    split at h
    · rename_i k1 k2 hs hd
      simp only [symOp, valK] at h
      split at h
      · rename_i k n hx
        simpa [execOp, convert, run_underlying hs, run_underlying hd, hx, Conv.intToInt, softK] using h
      · exact h.elim
    · simp only [symOp] at h
  | typeAssert x xt t ok =>
    simp only [toOp] at h
    split at h
    · simp only [symOp] at h
    · rename_i d z hne hu hz
      simp only [symOp, valK] at h
      split at h
      · rename_i t' u hx
        have hz' := run_zeroValue (P := P) w hz
        have hrun : (Instr.typeAssert (ev e x) xt t ok).run P w = (if t' = t then .ok (if ok then .tuple #[u, .bool true] else u) w else if ok then .ok (.tuple #[z, .bool false]) w else (runtimePanic (.typeAssertion (some xt) (some t') t "") : Sem Value).run P w) := by
          simp only [Instr.typeAssert, Sem.run_bind, run_underlying hu, Result.andThen_ok, hx]
          cases d <;> first | exact absurd rfl (hne _) | (by_cases h1 : t' = t <;> cases ok <;> simp [h1, hz'])
        by_cases h1 : t' = t
        · simp only [if_pos h1] at h hrun
          simpa [execOp, hrun, softK] using h
        · simp only [if_neg h1] at h hrun
          cases ok
          · simp at h
          · simpa [execOp, hrun, softK] using h
      · exact h.elim
    · simp only [symOp] at h
  | _ => simp only [toOp, symOp] at h

/-- One operation of a region: the slot that it writes, what it does, its guard (a slot and what it must hold). -/
structure GOp where
  d : Option Nat
  s : SOp
  g : Option (Nat × Bool) := none

inductive SCode where
  | skip
  | ops (l : List GOp)
  | raw (c : Code)
  | seq (x y : SCode)
  | cond (c : Operand) (x y : SCode)
  | block (i : Nat) (c : SCode)
  | loop (c : SCode)
  | exit (i : Nat)
  | ret

def guardOf (ops : Array Oper) : Option (Nat × Bool) → Option (Option (Nat × Bool))
  | none => some none
  | some (j, want) => match (ops[j]?).bind (·.dst) with
    | some t => some (some (t, want))
    | none => none

def toOps (P : Program) (ops : Array Oper) : List Oper → Option (List GOp)
  | [] => some []
  | o :: l => match guardOf ops o.guard, toOps P ops l with
    | some g, some r => some (⟨o.dst, toOp P o, g⟩ :: r)
    | _, _ => none

def toS (P : Program) : Code → SCode
  | .skip => .skip
  | .region id ops false => match toOps P ops ops.toList with
    | some l => .ops l
    | none => .raw (.region id ops false)
  | .region id ops true => .raw (.region id ops true)
  | .seq x y => .seq (toS P x) (toS P y)
  | .cond c x y => .cond c (toS P x) (toS P y)
  | .block i c => .block i (toS P c)
  | .loop c => .loop (toS P c)
  | .exit i => .exit i
  | .ret => .ret
  | c => .raw c

/-- At an operation that is not plain: as the model has it. -/
def hardOp (P : Program) (o : Oper) (K : Value → World → Prop) (p : List PanicEntry → World → Prop) (e : Env) (w : World) : Prop :=
  hardK P ((execOp (ev e) o).run P w) K p ∨ asksE P o e w

def guardK (g : Option (Nat × Bool)) (e : Env) (A B : Prop) : Prop :=
  match g with
  | none => A
  | some (t, want) => valK (e t) fun v => match v with
    | .bool b => if b = want then A else B
    | _ => B

def symOps (P : Program) : List GOp → Kont → Env → World → Prop
  | [], k, e, w => k.n e w
  | ⟨d, s, g⟩ :: l, k, e, w =>
    guardK g e (match s with
      | .hard o => hardOp P o (fun v w' => symOps P l k (updO e d v) w') k.p e w
      | .call f args => Calls P f (args.map (ev e)).toArray w (Out (fun v w' => symOps P l k (updO e d v) w') k.p)
      | s => symOp P s e w (fun v w' => symOps P l k (updO e d v) w'))
      (symOps P l k (updO e d undef) w)

/-- The plain reading of code. -/
def symS (n : Nat) (P : Program) : SCode → Kont → Env → World → Prop
  | .skip, k, e, w => k.n e w
  | .ops l, k, e, w => symOps P l k e w
  | .raw c, k, e, w => ∀ a, Rel n a e → c.wp P (lift n k) a w
  | .seq x y, k, e, w => symS n P x ⟨symS n P y k, k.x, k.r, k.p⟩ e w
  | .cond c x y, k, e, w => valK (ev e c) fun v => match v with
    | .bool true => symS n P x k e w
    | .bool false => symS n P y k e w
    | _ => False
  | .block i c, k, e, w => symS n P c ⟨k.n, fun j => if j = i then k.n else k.x j, k.r, k.p⟩ e w
  | .exit i, k, e, w => k.x i e w
  | .ret, k, e, w => k.r e w
  | .loop c, k, e, w => ∃ (I : Env → World → Prop) (μ : Env → World → Nat), I e w ∧
      ∀ e w, I e w → symS n P c ⟨fun e' w' => I e' w' ∧ μ e' w' < μ e w, k.x, k.r, k.p⟩ e w

/-- All slots that the code writes are slots of the frame. -/
def fitsOps (n : Nat) (l : List Oper) : Bool := l.all fun o => match o.dst with | some d => decide (d < n) | none => true
def fits (n : Nat) : Code → Bool
  | .region _ ops _ => fitsOps n ops.toList
  | .seq x y => fits n x && fits n y
  | .cond _ x y => fits n x && fits n y
  | .block _ c => fits n c
  | .loop c => fits n c
  | _ => true

theorem yielded_eq {n : Nat} {a : Act} {e : Env} (h : Rel n a e) (ops : Array Oper) (j t : Nat) (hj : (ops[j]?).bind (·.dst) = some t) :
    yielded ops a.tmps j = match e t with | .bool b => some b | _ => none := by
  unfold yielded
  have hv := h.val t
  rw [hj, Option.bind_some]
  cases hx : a.tmps[t]? with
  | none => rw [Array.getD_eq_getD_getElem?, hx] at hv; simp at hv; rw [← hv]; simp [undef]
  | some v => rw [Array.getD_eq_getD_getElem?, hx] at hv; simp at hv; rw [hv]; cases e t <;> rfl

theorem wp_of_hardK {n : Nat} {P : Program} {o : Oper} {k : Kont} {next : Env → World → Prop} {K : Act → World → Prop} {a : Act} {e : Env} {w : World}
    (h : Rel n a e) (hd : ∀ t, o.dst = some t → t < n) (hK : ∀ a e w, Rel n a e → next e w → K a w)
    (hh : hardK P ((execOp (ev e) o).run P w) (fun v w' => next (updO e o.dst v) w') k.p) : o.wp P a w K (lift n k) := by
  unfold Oper.wp
  rw [h.eval]
  generalize (execOp (ev e) o).run P w = r at *
  cases r with
  | ok x w' =>
    cases x <;> simp only [hardK] at hh <;> simp only [Oper.upon]
    case value v => exact hK _ _ _ (h.put hd v) hh
    case skip => exact hK _ _ _ (h.put hd undef) hh
    case enter f args =>
      refine Calls.mono hh fun en w'' he => ?_
      cases en with
      | returned v => exact hK _ _ _ (h.put hd v) he
      | panicked c => exact ⟨h.defers, he⟩
      | outgrown => exact (he : False).elim
  | halt x w' =>
    cases x <;> simp only [hardK] at hh
    case panic v => exact ⟨h.defers, hh⟩

theorem hard_of_soft {P : Program} {r : Result Next} {K : Value → World → Prop} {p : List PanicEntry → World → Prop} (h : softK r K) : hardK P r K p := by
  cases r with
  | ok x w' => cases x <;> simp only [softK] at h <;> exact h
  | halt x w' => cases x <;> simp only [softK] at h

theorem toOp_hard {P : Program} {o o' : Oper} (h : toOp P o = .hard o') : o' = strip o := by
  unfold toOp at h
  repeat' split at h
  all_goals first | (cases h; rfl) | (cases h; done)

theorem toOp_call {P : Program} {o : Oper} {f : FuncId} {args : List Operand} (h : toOp P o = .call f args) :
    callable P f = true ∧ ∃ c : Call, o.op = .call c ∧ (c.callee = .value (.func f) ∧ args = c.args.toList) := by
  unfold toOp at h
  repeat' split at h
  all_goals first
    | (cases h; done)
    | (rename_i hop hc; cases h; exact ⟨hc, _, hop, rfl, rfl⟩)
theorem run_call {P : Program} {o : Oper} {f : FuncId} {c : Call} {e : Env} {w : World} (hc : callable P f = true) (hop : o.op = .call c) (hcal : c.callee = .value (.func f)) :
    (execOp (ev e) o).run P w = .ok (.enter f (c.args.toList.map (ev e)).toArray) w := by
  obtain ⟨d, op, ty, pos, af, g⟩ := o
  obtain ⟨cal, args, ats⟩ := c
  simp only at hop hcal
  subst hop; subst hcal
  unfold callable at hc
  cases hf : P.funcs[f]? with
  | none => simp [hf] at hc
  | some fn =>
    simp only [hf, Bool.and_eq_true, Bool.not_eq_true'] at hc
    have hn : ¬ ((fn.name == "runtime.NumGoroutine") = true) := by rw [hc.1]; simp
    have hb : ¬ (fn.body.isNone = true) := by cases hb : fn.body <;> simp [hb] at hc ⊢
    have hargs : (List.map (ev e) args.toList).toArray = args.map (ev e) := by rw [← Array.toList_map, Array.toArray_toList]
    simp only [execOp, resolve, ev, Deferred.ofValue, invoke, callFunc, Sem.run_bind, Sem.run_pure, Result.andThen_ok, run_program, hf, hn, hb, if_false, Bool.false_eq_true]
    simp [hargs]

theorem symOps_sound {n : Nat} {P : Program} {ops : Array Oper} {k : Kont} : ∀ (l : List Oper) (r : List GOp), toOps P ops l = some r → fitsOps n l = true → ∀ (a : Act) (e : Env) (w : World), Rel n a e →
    symOps P r k e w → wpList P ops (lift n k) l a w := by
  intro l
  induction l with
  | nil => intro r hr _ a e w h hk; simp [toOps] at hr; subst hr; exact ⟨e, h, hk⟩
  | cons o l ih =>
    intro r hr hf a e w h hk
    simp only [toOps] at hr
    split at hr
    case h_2 => cases hr
    rename_i g r' hg hr'
    simp at hr
    subst hr
    simp only [fitsOps, List.all_cons, Bool.and_eq_true] at hf
    have hd : ∀ t, o.dst = some t → t < n := fun t ht => by have := hf.1; simp [ht] at this; exact this
    have hl := ih r' hr' hf.2
    have one : (match toOp P o with
        | .hard o' => hardOp P o' (fun v w' => symOps P r' k (updO e o.dst v) w') k.p e w
        | .call f args => Calls P f (args.map (ev e)).toArray w (Out (fun v w' => symOps P r' k (updO e o.dst v) w') k.p)
        | s => symOp P s e w (fun v w' => symOps P r' k (updO e o.dst v) w')) →
        o.wp P a w (wpList P ops (lift n k) l) (lift n k) ∨ (o.asks P a w ∧ LetsOut (lift n k)) := by
      intro hs
      by_cases hh : ∃ o', toOp P o = .hard o'
      · obtain ⟨o', ho'⟩ := hh
        have hst := toOp_hard ho'
        subst hst
        simp only [ho'] at hs
        rcases hs with hs | hs
        · rw [execOp_strip] at hs
          exact .inl (wp_of_hardK (next := symOps P r' k) h hd (fun a e w hr hn => hl a e w hr hn) hs)
        · exact (hs : False).elim
      · by_cases hcl : ∃ f args, toOp P o = .call f args
        · obtain ⟨f, args, ho'⟩ := hcl
          simp only [ho'] at hs
          obtain ⟨hc, c, hop, hcal, rfl⟩ := toOp_call ho'
          refine .inl (wp_of_hardK (next := symOps P r' k) h hd (fun a e w hr hn => hl a e w hr hn) ?_)
          rw [run_call hc hop hcal]
          exact hs
        have hs' : symOp P (toOp P o) e w (fun v w' => symOps P r' k (updO e o.dst v) w') := by
          split at hs
          · rename_i o' ho'; exact absurd ⟨o', ho'⟩ hh
          · rename_i f args ho'; exact absurd ⟨f, args, ho'⟩ hcl
          · exact hs
        exact .inl (wp_of_hardK (next := symOps P r' k) h hd (fun a e w hr hn => hl a e w hr hn) (hard_of_soft (symOp_sound o e w _ hs')))
    simp only [symOps] at hk
    unfold wpList Region.wanted
    cases hgo : o.guard with
    | none =>
      simp only [hgo, guardOf] at hg
      simp at hg; subst hg
      simp only [if_true]
      exact one hk
    | some gw =>
      obtain ⟨j, want⟩ := gw
      simp only [hgo, guardOf] at hg
      split at hg
      case h_2 => cases hg
      rename_i t ht
      simp at hg; subst hg
      simp only [yielded_eq h ops j t ht]
      simp only [guardK, valK] at hk
      cases hb : e t <;> simp only [hb] at hk
      case bool b =>
        by_cases hbw : b = want
        · rw [if_pos hbw] at hk
          rw [if_pos (by simp [hbw])]
          exact one hk
        · rw [if_neg hbw] at hk
          rw [if_neg (by simpa using hbw)]
          exact hl _ _ _ (h.put hd undef) hk
      all_goals (rw [if_neg (by simp)]; exact hl _ _ _ (h.put hd undef) hk)

def envOf (a : Act) : Env := fun t => a.tmps.getD t undef
theorem Rel.env {n : Nat} {a : Act} {e : Env} (h : Rel n a e) : e = envOf a := funext fun t => (h.val t).symm


theorem symS_sound {n : Nat} {P : Program} : ∀ (c : Code), fits n c = true → ∀ (k : Kont) (a : Act) (e : Env) (w : World), Rel n a e →
    symS n P (toS P c) k e w → c.wp P (lift n k) a w := by
  intro c
  induction c with
  | skip => intro _ k a e w h hk; exact wp_skip ⟨e, h, hk⟩
  | region id ops draw =>
    intro hf k a e w h hk
    cases draw with
    | false =>
      simp only [toS] at hk
      split at hk
      · rename_i l hl; exact wp_region_list (symOps_sound ops.toList l hl hf a e w h hk)
      · exact hk a h
    | true => exact hk a h
  | seq x y ihx ihy =>
    intro hf k a e w h hk
    simp only [fits, Bool.and_eq_true] at hf
    refine wp_seq (Code.wp_mono (fun ex a' w' hq => ?_) (ihx hf.1 ⟨symS n P (toS P y) k, k.x, k.r, k.p⟩ a e w h hk))
    cases ex with
    | normal => obtain ⟨e', h', hn⟩ := hq; exact ihy hf.2 k a' e' w' h' hn
    | exit i => exact hq
    | goto l => exact hq
    | ret => exact hq
    | panic c => exact hq
    | outgrown => exact hq
  | cond c x y ihx ihy =>
    intro hf k a e w h hk
    simp only [fits, Bool.and_eq_true] at hf
    simp only [toS, symS, valK] at hk
    have he := congrFun h.eval c
    split at hk
    · rename_i hc; exact wp_cond_true (he.trans hc) (ihx hf.1 k a e w h hk)
    · rename_i hc; exact wp_cond_false (he.trans hc) (ihy hf.2 k a e w h hk)
    · exact hk.elim
  | block i c ih =>
    intro hf k a e w h hk
    refine wp_block (Code.wp_mono (fun ex a' w' hq => ?_) (ih hf _ a e w h hk))
    cases ex with
    | normal => exact hq
    | exit j =>
      obtain ⟨e', h', hx⟩ := hq
      simp only [Exit.inBlock]
      by_cases hj : j = i
      · rw [if_pos hj]; simp only [if_pos hj] at hx; exact ⟨e', h', hx⟩
      · rw [if_neg hj]; simp only [if_neg hj] at hx; exact ⟨e', h', hx⟩
    | goto l => exact hq
    | ret => exact hq
    | panic c => exact hq
    | outgrown => exact hq
  | exit i => intro _ k a e w h hk; exact wp_exit ⟨e, h, hk⟩
  | ret => intro _ k a e w h hk; exact wp_ret ⟨e, h, hk⟩
  | loop c ih =>
    intro hf k a e w h hk
    obtain ⟨I, μ, h₀, round⟩ := hk
    refine wp_loop (fun a w => Rel n a (envOf a) ∧ I (envOf a) w) (fun a w => μ (envOf a) w) ⟨h.env ▸ h, h.env ▸ h₀⟩ ?_
    rintro a w ⟨hr, hI⟩
    refine Code.wp_mono (fun ex a' w' hq => ?_) (ih hf _ a _ w hr (round _ _ hI))
    cases ex with
    | normal =>
      obtain ⟨e', h', hI', hm⟩ := hq
      have he := h'.env
      subst he
      exact ⟨⟨h', hI'⟩, hm⟩
    | exit i => exact hq
    | goto l => exact hq
    | ret => exact hq
    | panic c => exact hq
    | outgrown => exact hq
  | rangeFunc f ps as c _ _ => intro _ k a e w h hk; exact hk a h
  | scope c _ => intro _ k a e w h hk; exact hk a h
  | label l => intro _ k a e w h hk; exact hk a h
  | goto l => intro _ k a e w h hk; exact hk a h
  | refuse s => intro _ k a e w h hk; exact hk a h

/-- What follows may be weakened. -/
theorem lift_mono {n : Nat} {k k' : Kont} (hn : ∀ e w, k.n e w → k'.n e w) (hx : ∀ i e w, k.x i e w → k'.x i e w) (hr : ∀ e w, k.r e w → k'.r e w) (hp : ∀ c w, k.p c w → k'.p c w) :
    ∀ ex a w, lift n k ex a w → lift n k' ex a w := by
  intro ex a w h
  cases ex with
  | normal => obtain ⟨e, h1, h2⟩ := h; exact ⟨e, h1, hn _ _ h2⟩
  | exit i => obtain ⟨e, h1, h2⟩ := h; exact ⟨e, h1, hx _ _ _ h2⟩
  | ret => obtain ⟨e, h1, h2⟩ := h; exact ⟨e, h1, hr _ _ h2⟩
  | panic c => exact ⟨h.1, hp _ _ h.2⟩
  | outgrown => exact h
  | goto l => exact h

theorem getD_args (args : List Value) (m t : Nat) : (args.toArray ++ Array.replicate m undef).getD t undef = args.getD t undef := by
  rw [Array.getD_eq_getD_getElem?, Array.getElem?_append]
  split
  · simp [List.getD_eq_getElem?_getD]
  · rename_i h
    simp at h
    rw [List.getD_eq_getElem?_getD, List.getElem?_eq_none h]
    simp only [List.size_toArray, Array.getElem?_replicate]
    split <;> rfl

theorem initEnv_get : ∀ (l : List Value) (i : Nat) (e : Env) (t : Nat), initEnv l i e t = if i ≤ t ∧ t < i + l.length then l.getD (t - i) undef else e t := by
  intro l
  induction l with
  | nil => intro i e t; simp [initEnv]; intro h1 h2; omega
  | cons v l ih =>
    intro i e t
    simp only [initEnv, ih]
    by_cases h : t = i
    · subst h
      rw [if_neg (by omega), if_pos (by simp only [List.length_cons]; omega)]
      simp [upd]
    · by_cases h2 : i ≤ t ∧ t < i + (l.length + 1)
      · rw [if_pos (by omega), if_pos (by simpa using h2)]
        rw [show t - i = (t - (i + 1)) + 1 from by omega]; simp
      · rw [if_neg (by omega), if_neg (by simpa using h2)]
        simp [upd, h]

def oneOf : List Value → Value
  | [v] => v
  | l => .tuple l.toArray

theorem results_tmps {fn : Func} {ts : List Nat} (hl : ts.length ≤ 4) (h : fn.results = (ts.map ResultVar.tmp).toArray) (tmps : Array Value) (P : Program) (w : World) :
    (results fn tmps).run P w = .ok (oneOf (ts.map fun t => tmps.getD t undef)) w := by
  match ts, hl, h with
  | [], _, h => simp [results, h, oneOf]
  | [t], _, h => simp [results, h, oneOf]
  | [t, u], _, h => simp [results, h, oneOf]
  | [t, u, v], _, h => simp [results, h, oneOf]
  | [t, u, v, x], _, h => simp [results, h, oneOf]

/-- The parts of code that are left as the model has them, in order. -/
def raws : Code → List Code
  | .region id ops true => [.region id ops true]
  | .seq x y => raws x ++ raws y
  | .cond _ x y => raws x ++ raws y
  | .block _ c => raws c
  | .loop c => raws c
  | .rangeFunc f ps a c => [.rangeFunc f ps a c]
  | .scope c => [.scope c]
  | _ => []
def rawOf (fn : Func) (i : Nat) : Code := (raws (fn.body.getD .skip)).getD i .skip
def bodyOf (fn : Func) : Code := fn.body.getD .skip
def H (op : Op) (ty : TypeId) : Oper := { dst := none, op, type := ty, pos := "", after := #[], guard := none }

/-- A call by the plain reading of its function's code. -/
theorem calls_sym {P : Program} {f : FuncId} {fn : Func} {c : Code} {args : List Value} {w : World} {Φ : Value → World → Prop} {Ψ : List PanicEntry → World → Prop} (n : Nat) (ts : List Nat)
    (hf : P.funcs[f]? = some fn) (hb : fn.body = some c) (hn : fn.ntmps = n) (hl : ts.length ≤ 4) (hr : fn.results = (ts.map ResultVar.tmp).toArray) (hfit : fits n c = true) (hargs : args.length ≤ n) {s : SCode} (hs : toS P c = s)
    (h : symS n P s ⟨fun e w => Φ (oneOf (ts.map e)) w, fun _ _ _ => False, fun e w => Φ (oneOf (ts.map e)) w, Ψ⟩ (initEnv args 0 env0) w) :
    Calls P f args.toArray w (Out Φ Ψ) := by
  refine calls_of_wp hf hb (Code.wp_mono (fun ex a' w' hq => ?_) (symS_sound c hfit _ _ _ w ?_ (hs ▸ h)))
  · cases ex with
    | normal =>
      obtain ⟨e, h1, h2⟩ := hq
      refine ⟨h1.defers, _, results_tmps hl hr _ _ _, ?_⟩
      simp only [h1.val]; exact h2
    | ret =>
      obtain ⟨e, h1, h2⟩ := hq
      refine ⟨h1.defers, _, results_tmps hl hr _ _ _, ?_⟩
      simp only [h1.val]; exact h2
    | exit i => obtain ⟨e, _, h2⟩ := hq; exact h2
    | panic c => exact hq
    | outgrown => exact (hq : False).elim
    | goto l => exact hq
  · refine ⟨by simp [hn]; omega, rfl, fun t => ?_⟩
    simp only [getD_args, initEnv_get, Nat.zero_add, Nat.zero_le, true_and, Nat.sub_zero]
    split
    · rfl
    · rename_i hlt
      rw [List.getD_eq_getElem?_getD, List.getElem?_eq_none (by omega)]; rfl
end Go.Proofs.Ytneehlkofcdhoaa
