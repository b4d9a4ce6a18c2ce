/- Texts of one claim, put together in their order: what each proves stands ahead of it. -/
import Derived.Calls
import Derived.Orders
import Derived.Scope
import Derived.Tactics
import Derived.Laws.Tables
import Derived.OwnWalk
import Derived.Below
import Derived.Deep.AppendSrc
import Derived.Laws.MakeOwn
/- A plain reading of the model's weakest preconditions: frames as functions, one equation an operation, sound for the kit's own 'Code.wp'. -/
namespace Go.Proofs.YtienelpepioggaaGreat
open Go

/-- What a call may come to: a value (Φ) or a panic (Ψ). -/
def Out (Φ : Value → World → Prop) (Ψ : List PanicEntry → World → Prop) : Ending → World → Prop
  | .returned v, w => Φ v w
  | .panicked c, w => Ψ c w
  | .outgrown, _ => False

/-- A frame, as a function of the slots. -/
abbrev Env := Nat → Value
def upd (e : Env) (d : Nat) (v : Value) : Env := fun t => if t = d then v else e t
def updO (e : Env) : Option Tmp → Value → Env
  | some d, v => upd e d v
  | none, _ => e
def env0 : Env := fun _ => undef
def initEnv : List Value → Nat → Env → Env
  | [], _, e => e
  | v :: l, i, e => initEnv l (i + 1) (upd e i v)
def ev (e : Env) : Operand → Value
  | .tmp t => e t
  | .const v => v
  | .global g => .pointer (some ⟨g, 0, none⟩)
  | .func f => .func (.func f) #[] #[]

structure Rel (n : Nat) (a : Act) (e : Env) : Prop where
  size : a.tmps.size = n
  defers : a.defers = []
  val : ∀ t, a.tmps.getD t undef = e t

theorem Rel.eval {n : Nat} {a : Act} {e : Env} (h : Rel n a e) : a.eval = ev e := by
  funext x; cases x <;> simp [Act.eval, ev, ← h.val]

theorem Rel.put {n : Nat} {a : Act} {e : Env} (h : Rel n a e) {d : Option Tmp} (hd : ∀ t, d = some t → t < n) (v : Value) : Rel n (a.put d v) (updO e d v) := by
  cases d with
  | none => exact h
  | some d =>
    have hlt := hd d rfl
    refine ⟨by simp [Act.put, h.size], h.defers, fun t => ?_⟩
    by_cases ht : t = d
    · subst ht
      simp [Act.put, updO, upd, h.size, hlt]
    · have h1 := h.val t
      simp [Act.put, updO, upd, ht, Array.getElem?_setIfInBounds_ne (Ne.symm ht)]
      simpa using h1

/-- What follows: behind the code, at an exit, at a return, at a panic. -/
structure Kont where
  n : Env → World → Prop
  x : Nat → Env → World → Prop
  r : Env → World → Prop
  p : List PanicEntry → World → Prop

def lift (n : Nat) (k : Kont) : Exit → Act → World → Prop
  | .normal, a, w => ∃ e, Rel n a e ∧ k.n e w
  | .exit i, a, w => ∃ e, Rel n a e ∧ k.x i e w
  | .ret, a, w => ∃ e, Rel n a e ∧ k.r e w
  | .panic c, a, w => a.defers = [] ∧ k.p c w
  | .outgrown, _, _ => False
  | .goto _, _, _ => False



def softK (r : Result Next) (K : Value → World → Prop) : Prop :=
  match r with
  | .ok (.value v) w' => K v w'
  | .ok .skip w' => K undef w'
  | _ => False

def hardK (P : Program) (r : Result Next) (K : Value → World → Prop) (p : List PanicEntry → World → Prop) : Prop :=
  match r with
  | .ok (.value v) w' => K v w'
  | .ok .skip w' => K undef w'
  | .ok (.enter f args) w' => Calls P f args w' (Out K p)
  | .halt (.panic v) w' => p [{ v, recovered := false }] w'
  | _ => False

def asksE (_P : Program) (_o : Oper) (_e : Env) (_w : World) : Prop := False

/-- A value first brought to its plain form, then handed on. -/
def valK {α : Type} (v : α) (K : α → Prop) : Prop := K v
def optK {α : Type} (o : Option α) (K : α → Prop) : Prop := match o with | some v => K v | none => False
/-- What may lie in one cell. -/
def isCell : Value → Bool
  | .agg _ | .tuple _ => false
  | _ => true

def loadN (w : World) (a : Addr) : (i n : Nat) → Option (List Value)
  | _, 0 => some []
  | i, n + 1 => match w.cell? (a.add i) with
    | some v => (loadN w a (i + 1) n).map (v :: ·)
    | none => none

def storeN (w : World) (a : Addr) : (i : Nat) → List Value → Option World
  | _, [] => some w
  | i, v :: l => if isCell v && (w.cell? (a.add i)).isSome && !w.frozen? (a.add i) then storeN (w.setCell (a.add i) v) a (i + 1) l else none

/-- Operations, with what the program's tables say of them looked up. -/
inductive SOp where
  | mv (x : Operand)
  | pick (c x y : Operand)
  | ld (x : Operand)
  | ldn (n : Nat) (x : Operand)
  | st (a x : Operand)
  | stn (n : Nat) (a x : Operand)
  | nilc (x : Operand)
  | bin (op : BinOp) (x y : Operand)
  | beq (neg : Bool) (x y : Operand)
  | eqn (kind : Nat) (neg : Bool) (x : Operand)
  | un (op : UnOp) (x : Operand)
  | fa (off : Nat) (x : Operand)
  | fld (off n : Nat) (agg : Bool) (x : Operand)
  | ia (size : Nat) (x i : Operand)
  | iaa (len size : Nat) (x i : Operand)
  | idx (len size : Nat) (agg : Bool) (x i : Operand)
  | sidx (x i : Operand)
  | ext (x : Operand) (i : Nat)
  | box (t : TypeId) (x : Operand)
  | alloc (t : TypeId) (z : Value)
  | bld (z : Array Value) (parts : List (Nat × Nat × Operand))
  | bsl (t : TypeId) (z : Array Value) (len : Nat) (parts : List (Nat × Nat × Operand))
  | mkmap
  | mkif (t : TypeId) (x : Operand)
  | mkfn (fn : Fn) (first captured : List Operand)
  | len (kind : Nat) (x : Operand)
  | slc (size : Nat) (x : Operand) (lo hi mx : Option Operand)
  | slca (n size : Nat) (x : Operand) (lo hi mx : Option Operand)
  | lkp (k : IntKind) (z : Value) (x i : Operand) (ok : Bool)
  | conv (k : IntKind) (x : Operand)
  | ta (t : TypeId) (z : Value) (x : Operand) (ok : Bool)
  | call (f : FuncId) (args : List Operand)
  | hard (o : Oper)

/-- An integer's binary operation. -/
def binV (op : BinOp) : Value → Value → Option Value
  | .int k a, .int k' b =>
      match op with
      | .shl => if b < 0 then none else some (.int k (k.wrap (a * 2 ^ (min b.toNat k.bits))))
      | .shr => if b < 0 then none else some (.int k (a.fdiv (2 ^ (min b.toNat k.bits))))
      | .add => if k = k' then some (.int k (k.wrap (a + b))) else none
      | .sub => if k = k' then some (.int k (k.wrap (a - b))) else none
      | .mul => if k = k' then some (.int k (k.wrap (a * b))) else none
      | .quo => if k = k' then (if b = 0 then none else some (.int k (k.wrap (a.tdiv b)))) else none
      | .rem => if k = k' then (if b = 0 then none else some (.int k (a.tmod b))) else none
      | .and => if k = k' then some (.int k (k.wrap (BitVec.ofInt k.bits a &&& BitVec.ofInt k.bits b).toNat)) else none
      | .or => if k = k' then some (.int k (k.wrap (BitVec.ofInt k.bits a ||| BitVec.ofInt k.bits b).toNat)) else none
      | .xor => if k = k' then some (.int k (k.wrap (BitVec.ofInt k.bits a ^^^ BitVec.ofInt k.bits b).toNat)) else none
      | .eql => if k = k' then some (.bool (decide (a = b))) else none
      | .neq => if k = k' then some (.bool (!decide (a = b))) else none
      | .lss => if k = k' then some (.bool (decide (a < b))) else none
      | .leq => if k = k' then some (.bool (decide (a ≤ b))) else none
      | .gtr => if k = k' then some (.bool (decide (b < a))) else none
      | .geq => if k = k' then some (.bool (decide (b ≤ a))) else none
      | _ => none
  | _, _ => none

/-- Is it nil? (0: a pointer, 1: a slice, 2: a map) -/
def nilV : Nat → Value → Option Bool
  | 0, .pointer a => some a.isNone
  | 1, .slice a _ _ => some a.isNone
  | 2, .map r => some r.isNone
  | _, _ => none

/-- The slots and their bounds. -/
def bndV : Value → Nat → Option Nat
  | .int _ n, y => if 0 ≤ n ∧ n ≤ y then some n.toNat else none
  | _, _ => none

def slcV (size : Nat) (a : Option Addr) (len cap : Nat) (lo hi mx : Option Value) : Option Value :=
  match (match mx with | some v => bndV v cap | none => some cap) with
  | none => none
  | some m =>
    match (match hi with | some v => bndV v m | none => if mx.isSome then none else some len) with
    | none => none
    | some h =>
      match (match lo with | some v => bndV v h | none => some 0) with
      | none => none
      | some l => some (.slice (if m = l then a else a.map (·.add (l * size))) (h - l) (m - l))

/-- The entry of a key among a map's entries; keys of one kind of integer. -/
def findInt (k : IntKind) (n : Int) : List MapEntry → Option Value
  | [] => none
  | e :: l => match e.key with
    | .int _ m => if n = m then some e.val else findInt k n l
    | _ => findInt k n l
def intKeys (k : IntKind) (l : List MapEntry) : Bool := l.all fun e => match e.key with | .int k' _ => k = k' | _ => false

def lkpV (w : World) (z : Value) (ok : Bool) : Value → Value → Option Value
  | .map r, .int k n =>
    match (match r with | none => some #[] | some b => match w.heap[b]? with | some (.map es _) => some es | _ => none) with
    | none => none
    | some es => if intKeys k es.toList then
        match findInt k n es.toList with
        | some v => some (if ok then .tuple #[v, .bool true] else v)
        | none => some (if ok then .tuple #[z, .bool false] else z)
      else none
  | _, _ => none

def fillV (e : Env) (z : Array Value) : List (Nat × Nat × Operand) → Option (Array Value)
  | [] => some z
  | (off, size, x) :: l => let v := ev e x
    if v.cells.size ≠ size || off + v.cells.size > z.size then none
    else fillV e (v.cells.zipIdx.foldl (fun cs (c, j) => cs.setIfInBounds (off + j) c) z) l

/-- The receiver behind a method value is not nil. -/
def nilMOK (P : Program) (t : TypeId) (u : Value) (name : String) : Prop := ∀ w, (nilAhead (P.types.size + Made.depth) t u name).run P w = .ok (some false) w

open Classical in
noncomputable def nilF (P : Program) (v : Value) : Option Value :=
  match v with
  | .pointer (some a) => some (.pointer (some a))
  | .func (.func f) c d => some (.func (.func f) c d)
  | .func (.method name) f c => match (f[0]? : Option Value) with
    | some (.iface t u) => if nilMOK P t u name then some (.func (.method name) f c) else none
    | _ => none
  | _ => none

def symOp (P : Program) (s : SOp) (e : Env) (w : World) (K : Value → World → Prop) : Prop :=
  match s with
  | .mv x => valK (ev e x) fun v => K v w
  | .pick c x y => valK (ev e c) fun c => match c with | .bool true => valK (ev e x) fun v => K v w | .bool false => valK (ev e y) fun v => K v w | _ => False
  | .ld x => valK (ev e x) fun v => match v with | .pointer (some a) => optK (w.cell? a) fun u => K u w | _ => False
  | .ldn n x => valK (ev e x) fun v => match v with | .pointer (some a) => optK (loadN w a 0 n) fun u => K (.agg u.toArray) w | _ => False
  | .st x y => valK (ev e x) fun v => valK (ev e y) fun u => match v with
    | .pointer (some a) => optK (if isCell u && (w.cell? a).isSome && !w.frozen? a then some (w.setCell a u) else none) fun w' => K undef w'
    | _ => False
  | .stn n x y => valK (ev e x) fun v => valK (ev e y) fun u => match v with
    | .pointer (some a) => optK (if u.cells.size = n then storeN w a 0 u.cells.toList else none) fun w' => K undef w'
    | _ => False
  | .nilc x => optK (nilF P (ev e x)) fun v => K v w
  | .bin op x y => valK (ev e x) fun v => valK (ev e y) fun u => optK (binV op v u) fun r => K r w
  | .beq neg x y => valK (ev e x) fun v => valK (ev e y) fun u => match v, u with
    | .bool a, .bool b => K (.bool (if neg then !(a == b) else a == b)) w
    | _, _ => False
  | .eqn kind neg x => valK (ev e x) fun v => optK (nilV kind v) fun b => K (.bool (if neg then !b else b)) w
  | .un op x => valK (ev e x) fun v => match op, v with
    | .not, .bool b => K (.bool !b) w
    | .neg, .int k n => K (.int k (k.wrap (0 - n))) w
    | _, _ => False
  | .fa off x => valK (ev e x) fun v => match v with | .pointer (some a) => K (.pointer (some (a.add off))) w | _ => False
  | .fld off n agg x => valK (ev e x) fun v => match v with
    | .agg cs => if agg then K (.agg (cs.extract off (off + n))) w else optK cs[off]? fun u => K u w
    | _ => False
  | .ia size x i => valK (ev e x) fun v => valK (ev e i) fun u => match v, u with
    | .slice (some a) len _, .int _ i => optK (if 0 ≤ i ∧ i < (len : Int) then some (a.add (i.toNat * size)) else none) fun a => K (.pointer (some a)) w
    | _, _ => False
  | .iaa len size x i => valK (ev e x) fun v => valK (ev e i) fun u => match v, u with
    | .pointer (some a), .int _ i => optK (if 0 ≤ i ∧ i < (len : Int) then some (a.add (i.toNat * size)) else none) fun a => K (.pointer (some a)) w
    | _, _ => False
  | .idx len size agg x i => valK (ev e x) fun v => valK (ev e i) fun u => match v, u with
    | .agg cs, .int _ i => if 0 ≤ i ∧ i < (len : Int) then (if agg then K (.agg (cs.extract (i.toNat * size) (i.toNat * size + size))) w else optK cs[i.toNat * size]? fun u => K u w) else False
    | _, _ => False
  | .sidx x i => valK (ev e x) fun v => valK (ev e i) fun u => match v, u with
    | .string s, .int _ i => if 0 ≤ i then optK s[i.toNat]? fun b => K (.int .u8 b.toNat) w else False
    | _, _ => False
  | .ext x i => valK (ev e x) fun v => match v with | .tuple vs => optK vs[i]? fun u => K u w | _ => False
  | .box t x => valK (ev e x) fun v => K (.pointer (some ⟨w.heap.size, 0, none⟩)) (w.alloc (.cells v.cells t))
  | .alloc t z => K (.pointer (some ⟨w.heap.size, 0, none⟩)) (w.alloc (.cells z.cells t))
  | .bld z parts => optK (fillV e z parts) fun cs => K (.agg cs) w
  | .bsl t z len parts => optK (fillV e z parts) fun cs => K (.slice (some ⟨w.heap.size, 0, none⟩) len len) (w.alloc (.cells cs t))
  | .mkmap => K (.map (some w.heap.size)) (w.alloc (.map #[] 0))
  | .mkif t x => valK (ev e x) fun v => K (.iface t v) w
  | .mkfn fn first captured => valK (first.map (ev e)) fun f => valK (captured.map (ev e)) fun c => K (.func fn f.toArray c.toArray) w
  | .len kind x => valK (ev e x) fun v => match kind, v with
    | 0, .slice _ n _ => K (.int .i64 n) w
    | 1, .string s => K (.int .i64 s.size) w
    | 2, .map none => K (.int .i64 0) w
    | 2, .map (some r) => match w.heap[r]? with | some (.map es _) => K (.int .i64 es.size) w | _ => False
    | _, _ => False
  | .slc size x lo hi mx => valK (ev e x) fun v => valK (lo.map (ev e)) fun lo => valK (hi.map (ev e)) fun hi => valK (mx.map (ev e)) fun mx => match v with
    | .slice a len cap => optK (slcV size a len cap lo hi mx) fun r => K r w
    | _ => False
  | .slca n size x lo hi mx => valK (ev e x) fun v => valK (lo.map (ev e)) fun lo => valK (hi.map (ev e)) fun hi => valK (mx.map (ev e)) fun mx => match v with
    | .pointer (some a) => optK (slcV size (some a) n n lo hi mx) fun r => K r w
    | _ => False
  | .lkp _ z x i ok => valK (ev e x) fun v => valK (ev e i) fun u => optK (lkpV w z ok v u) fun r => K r w
  | .conv k x => valK (ev e x) fun v => match v with | .int _ n => K (.int k (k.wrap n)) w | _ => False
  | .ta t z x ok => valK (ev e x) fun v => match v with
    | .iface t' u => if t' = t then K (if ok then .tuple #[u, .bool true] else u) w else (if ok then K (.tuple #[z, .bool false]) w else False)
    | _ => False
  | .call _ _ => False
  | .hard _ => False

/-- An operation as the model has it, what does not matter struck. -/
def strip (o : Oper) : Oper := { dst := none, op := o.op, type := o.type, pos := "", after := #[], guard := none }
theorem execOp_strip (ρ : Operand → Value) (o : Oper) : execOp ρ (strip o) = execOp ρ o := by
  obtain ⟨d, op, t, p, a, g⟩ := o; cases op <;> rfl

def isAggD : TypeDesc → Bool
  | .struct _ | .array _ _ => true
  | _ => false
def nilC : TypeDesc → Operand → Option Nat
  | .pointer _, .const (.pointer none) => some 0
  | .slice _, .const (.slice none _ _) => some 1
  | .map _ _, .const (.map none) => some 2
  | _, _ => none
def places (P : Program) (fs : List Field) : Option (List (Nat × Nat)) := fs.mapM fun f => (P.info? f.type).map fun i => (f.offset, i.size)
def resolveParts (place : Nat → Option (Nat × Nat)) (l : List (Nat × Operand)) : Option (List (Nat × Nat × Operand)) :=
  l.mapM fun (i, x) => (place i).map fun (o, s) => (o, s, x)

/-- A function that is entered when it is called. -/
def callable (P : Program) (f : FuncId) : Bool := match P.funcs[f]? with
  | some fn => !(fn.name == "runtime.NumGoroutine") && fn.body.isSome
  | none => false

/-- The tables looked up. -/
def toOp (P : Program) (o : Oper) : SOp :=
  match o.op with
  | .move x | .assign x => .mv x
  | .pick c a b => .pick c a b
  | .load t x => match P.underlying t with
    | some d => if isAggD d then .ldn (P.cellsOf t) x else .ld x
    | none => .hard (strip o)
  | .store t a x => match P.underlying t with
    | some d => if isAggD d then .stn (P.cellsOf t) a x else if P.cellsOf t = 1 then .st a x else .hard (strip o)
    | none => .hard (strip o)
  | .nilCheck x => .nilc x
  | .binOp op t x y _ => match P.underlying t with
    | some (.int _) => .bin op x y
    | some .bool => match op with | .eql => .beq false x y | .neq => .beq true x y | _ => .hard (strip o)
    | some d => match nilC d y with
      | some k => match op with | .eql => .eqn k false x | .neq => .eqn k true x | _ => .hard (strip o)
      | none => .hard (strip o)
    | none => .hard (strip o)
  | .unOp op _ x => .un op x
  | .fieldAddr s x f => match P.underlying s with
    | some (.struct fs) => match fs[f]? with
      | some fd => if (P.info? fd.type).isSome && P.cellsOf fd.type ≠ 0 then .fa fd.offset x else .hard (strip o)
      | none => .hard (strip o)
    | _ => .hard (strip o)
  | .field s x f => match P.underlying s with
    | some (.struct fs) => match fs[f]? with
      | some fd => match P.underlying fd.type with
        | some d => .fld fd.offset (P.cellsOf fd.type) (isAggD d) x
        | none => .hard (strip o)
      | none => .hard (strip o)
    | _ => .hard (strip o)
  | .indexAddr t x i => match P.underlying t with
    | some (.slice e) => if (P.info? e).isSome then .ia (P.cellsOf e) x i else .hard (strip o)
    | some (.array n e) => if (P.info? e).isSome && 1 < n then .iaa n (P.cellsOf e) x i else .hard (strip o)
    | _ => .hard (strip o)
  | .index t x i => match P.underlying t with
    | some (.array n e) => match P.underlying e with
      | some d => .idx n (P.cellsOf e) (isAggD d) x i
      | none => .hard (strip o)
    | some .string => .sidx x i
    | _ => .hard (strip o)
  | .extract x i => .ext x i
  | .box t x => .box t x
  | .alloc t => match (P.info? t).bind (·.zero) with
    | some z => .alloc t z
    | none => .hard (strip o)
  | .build t parts => match P.underlying t, (P.info? t).bind (·.zero) with
    | some (.struct fs), some z => match places P fs.toList with
      | some ps => match resolveParts (ps.toArray[·]?) parts.toList with
        | some l => .bld z.cells l
        | none => .hard (strip o)
      | none => .hard (strip o)
    | some (.array _ e), some z => match P.info? e with
      | some ie => match resolveParts (fun i => some (i * ie.size, ie.size)) parts.toList with
        | some l => .bld z.cells l
        | none => .hard (strip o)
      | none => .hard (strip o)
    | _, _ => .hard (strip o)
  | .buildSlice t n parts => match P.underlying t with
    | some (.slice e) => match P.info? e with
      | some ie => match ie.zero with
        | some z => match resolveParts (fun i => some (i * ie.size, ie.size)) parts.toList with
          | some l => if n * ie.size ≤ 4096 then .bsl e ((Array.range (n * ie.size)).map (z.cells[· % z.cells.size]!)) n l else .hard (strip o)
          | none => .hard (strip o)
        | none => .hard (strip o)
      | none => .hard (strip o)
    | _ => .hard (strip o)
  | .makeMap _ none => .mkmap
  | .makeInterface t x => match P.underlying t with
    | some (.interface _) => .hard (strip o)
    | some _ => .mkif t x
    | none => .hard (strip o)
  | .makeFunc fn first captured => .mkfn fn first.toList captured.toList
  | .call { callee := .builtin .len, args, argTypes } => match args.toList, argTypes.toList with
    | [x], [t] => match P.underlying t with
      | some (.slice _) => .len 0 x
      | some .string => .len 1 x
      | some (.map _ _) => .len 2 x
      | _ => .hard (strip o)
    | _, _ => .hard (strip o)
  | .call { callee := .value (.func f), args, .. } => if callable P f then .call f args.toList else .hard (strip o)
  | .slice t x lo hi mx => match P.underlying t with
    | some (.slice e) => if (P.info? e).isSome then .slc (P.cellsOf e) x lo hi mx else .hard (strip o)
    | some (.array n e) => if (P.info? e).isSome then .slca n (P.cellsOf e) x lo hi mx else .hard (strip o)
    | _ => .hard (strip o)
  | .lookup t x i ok => match P.underlying t with
    | some (.map k e) => match P.underlying k, (P.info? e).bind (·.zero) with
      | some (.int kk), some z => .lkp kk z x i ok
      | _, _ => .hard (strip o)
    | _ => .hard (strip o)
  | .convert s d x => match P.underlying s, P.underlying d with
    | some (.int _), some (.int k) => .conv k x
    | _, _ => .hard (strip o)
  | .typeAssert x _ t ok => match P.underlying t, (P.info? t).bind (·.zero) with
    | some (.interface _), _ => .hard (strip o)
    | some _, some z => .ta t z x ok
    | _, _ => .hard (strip o)
  | _ => .hard (strip o)

theorem info_of_underlying {P : Program} {t : TypeId} {d : TypeDesc} (h : P.underlying t = some d) : (P.info? t).isSome = true := by
  unfold Program.underlying at h
  cases hi : P.info? t with
  | none => simp [hi] at h
  | some i => rfl
theorem run_sizeOf' {P : Program} {t : TypeId} (h : (P.info? t).isSome = true) (w : World) : (sizeOf t).run P w = .ok (P.cellsOf t) w := by
  cases hi : P.info? t with
  | none => simp [hi] at h
  | some i => simp [sizeOf, typeInfo, hi, Program.cellsOf]
theorem run_isAgg {P : Program} {t : TypeId} {d : TypeDesc} (h : P.underlying t = some d) (w : World) : (isAgg t).run P w = .ok (isAggD d) w := by
  cases d <;> simp [isAgg, run_underlying h, isAggD]
theorem run_loadN {P : Program} (w : World) (a : Addr) : ∀ (n i : Nat) (acc : Array Value) (l : List Value), loadN w a i n = some l →
    (loadCellsFrom a i n acc).run P w = .ok (acc ++ l.toArray) w := by
  intro n
  induction n with
  | zero => intro i acc l h; simp [loadN] at h; subst h; simp [loadCellsFrom]
  | succ n ih =>
    intro i acc l h
    simp only [loadN] at h
    cases hc : w.cell? (a.add i) with
    | none => simp [hc] at h
    | some v =>
      simp only [hc, Option.map_eq_some_iff] at h
      obtain ⟨l', h1, rfl⟩ := h
      simp [loadCellsFrom, hc, ih _ _ _ h1]
theorem isCell_cells {v : Value} (h : isCell v = true) : v.cells = #[v] := by cases v <;> simp_all [isCell, Value.cells]
theorem isCell_one {v : Value} (h : isCell v = true) : v.oneCell' = true := by cases v <;> simp_all [isCell, Value.oneCell']
theorem run_store1 {P : Program} {w : World} {a : Addr} {v u : Value} (hv : isCell v = true) (hc : w.cell? a = some u) (hf : w.frozen? a = false) :
    (store a v).run P w = .ok () (w.setCell a v) := by
  rw [run_store P w a v _ (isCell_one hv)]; simp [hc, hf]
theorem run_storeN {P : Program} (a : Addr) : ∀ (l : List Value) (i : Nat) (w w' : World), storeN w a i l = some w' →
    (storeCells a l i).run P w = .ok () w' := by
  intro l
  induction l with
  | nil => intro i w w' h; simp [storeN] at h; subst h; simp [storeCells]
  | cons v l ih =>
    intro i w w' h
    simp only [storeN] at h
    split at h
    · rename_i hc
      simp only [Bool.and_eq_true, Bool.not_eq_true', Option.isSome_iff_exists] at hc
      obtain ⟨⟨h1, u, h2⟩, h3⟩ := hc
      simp [storeCells, run_store1 (P := P) h1 h2 h3, ih _ _ _ h]
    · cases h
theorem eqGuard_int (op : BinOp) (t : TypeId) (x y : Operand) (k k' : IntKind) (a b : Int) : eqGuard op t x y (.int k a) (.int k' b) = pure () := by cases op <;> rfl
theorem eqGuard_bool (op : BinOp) (t : TypeId) (x y : Operand) (a b : Bool) : eqGuard op t x y (.bool a) (.bool b) = pure () := by cases op <;> rfl

theorem run_binV {P : Program} {op : BinOp} {t : TypeId} {x y : Operand} {v u r : Value} (w : World) (h : binV op v u = some r) :
    (do eqGuard op t x y v u; binOp op t v u : Sem Value).run P w = .ok r w := by
  cases v <;> cases u <;> simp only [binV] at h <;> try (cases h; done)
  case int k a k' b =>
    rw [eqGuard_int]
    simp only [Sem.run_bind, Sem.run_pure, Result.andThen_ok]
    by_cases hk : k = k'
    · subst hk
      simp only [if_true] at h
      cases op <;> simp only [Option.some.injEq, reduceCtorEq] at h
      case quo => split at h; · cases h
                  · rename_i hb; simp at h; subst h; simp [binOp, Op.intDiv, hb]
      case rem => split at h; · cases h
                  · rename_i hb; simp at h; subst h; simp [binOp, Op.intDiv, hb]
      case shl => split at h; · cases h
                  · rename_i hb; simp at h; subst h; simp [binOp, Op.shift, hb]
      case shr => split at h; · cases h
                  · rename_i hb; simp at h; subst h; simp [binOp, Op.shift, hb]
      case eql => subst h; simp [binOp, Op.intCmp]; rfl
      case neq => subst h; simp [binOp, Op.intCmp]; rfl
      all_goals (subst h; simp [binOp, Op.intArith, Op.intCmp, Op.intBits])
    · simp only [if_neg hk] at h
      cases op <;> simp only [reduceCtorEq] at h
      case shl => split at h; · cases h
                  · rename_i hb; simp at h; subst h; simp [binOp, Op.shift, hb]
      case shr => split at h; · cases h
                  · rename_i hb; simp at h; subst h; simp [binOp, Op.shift, hb]

theorem run_nilIn {P : Program} {t : TypeId} {d : TypeDesc} {v : Value} {c : Operand} {k : Nat} {b : Bool} (n : Nat) (e : Env) (w : World) (hu : P.underlying t = some d) (hc : nilC d c = some k)
    (hn : nilV k v = some b) : (Op.equalIn (n + 1) t v (ev e c)).run P w = .ok b w := by
  unfold nilC at hc
  split at hc <;> simp only [Option.some.injEq, reduceCtorEq] at hc <;> subst hc <;> cases v <;> simp only [nilV, Option.some.injEq, reduceCtorEq] at hn
  · rename_i a; subst hn; cases a <;> simp [Op.equalIn, run_underlying hu, ev]
  · rename_i a _ _; subst hn; cases a <;> simp [Op.equalIn, run_underlying hu, ev]
  · rename_i a; subst hn; cases a <;> simp [Op.equalIn, run_underlying hu, ev]
theorem run_nilV {P : Program} {t : TypeId} {d : TypeDesc} {v : Value} {c : Operand} {k : Nat} {b : Bool} (e : Env) (w : World) (hu : P.underlying t = some d) (hc : nilC d c = some k)
    (hn : nilV k v = some b) : (Op.equal t v (ev e c)).run P w = .ok b w := run_nilIn 9999 e w hu hc hn
theorem nilV_guard {v u : Value} {k : Nat} {b : Bool} (op : BinOp) (t : TypeId) (x y : Operand) (hn : nilV k v = some b) : eqGuard op t x y v u = pure () := by
  cases v <;> simp only [nilV, reduceCtorEq] at hn <;> cases op <;> rfl

theorem findNow_int (k kk : IntKind) (n : Int) : ∀ (l : List MapEntry) (i : Nat), intKeys k l = true →
    ∃ r, Instr.findNow (.int kk) (.int k n) l i = some r ∧ r.map (·.2) = findInt k n l := by
  intro l
  induction l with
  | nil => intro i _; exact ⟨none, rfl, rfl⟩
  | cons e l ih =>
    intro i h
    simp only [intKeys, List.all_cons, Bool.and_eq_true] at h
    obtain ⟨h1, h2⟩ := h
    cases hk : e.key <;> simp only [hk] at h1 <;> try (cases h1; done)
    case int k' m =>
      have h1 : k = k' := by simpa using h1
      subst h1
      obtain ⟨r, hr, hm⟩ := ih (i + 1) h2
      by_cases hnm : n = m
      · subst hnm
        exact ⟨some (i, e.val), by simp [Instr.findNow, hk, Instr.sameNow], by simp [findInt, hk]⟩
      · have hb : (n == m) = false := by simpa using hnm
        exact ⟨r, by simp [Instr.findNow, hk, Instr.sameNow, hb, hr], by simp [findInt, hk, hnm, hm]⟩

theorem run_checkKey_int {P : Program} {t : TypeId} {kk : IntKind} (b : Bool) (k : IntKind) (n : Int) (m : Nat) (w : World) (h : P.underlying t = some (.int kk)) :
    (Instr.checkKey b (m + 1) t (.int k n)).run P w = .ok () w := by
  simp [Instr.checkKey, run_underlying h]

theorem run_getMap {P : Program} {w : World} {b : Nat} {es : Array MapEntry} {c : Nat} (h : w.heap[b]? = some (.map es c)) : (getObj b).run P w = .ok (.map es c) w := by
  simp [getObj, Sem.run, h]
theorem run_findKey {P : Program} {tk : TypeId} {kk k : IntKind} {n : Int} {l : List MapEntry} (w : World) (hk : P.underlying tk = some (.int kk)) (hint : intKeys k l = true) :
    ∃ r, (Instr.findKey tk (.int k n) l).run P w = .ok r w ∧ r.map (·.2) = findInt k n l := by
  obtain ⟨q, hq, hqm⟩ := findNow_int k kk n l 0 hint
  exact ⟨q, by simp [Instr.findKey, run_underlying hk, hq], hqm⟩
theorem run_zeroValue {P : Program} {t : TypeId} {z : Value} (w : World) (hz : (P.info? t).bind (·.zero) = some z) : (zeroValue t).run P w = .ok z w := by
  cases hi : P.info? t with
  | none => simp [hi] at hz
  | some ii => simp [hi] at hz; simp [zeroValue, typeInfo, hi, hz]

theorem run_lkpV {P : Program} {t tk te : TypeId} {kk : IntKind} {z v u r : Value} {ok : Bool} (w : World) (hu : P.underlying t = some (.map tk te)) (hk : P.underlying tk = some (.int kk))
    (hz : (P.info? te).bind (·.zero) = some z) (h : lkpV w z ok v u = some r) : (Instr.lookup t v u ok).run P w = .ok r w := by
  have main : ∀ (es : Array MapEntry) (k : IntKind) (n : Int), intKeys k es.toList = true →
      (match findInt k n es.toList with
        | some v => some (if ok then .tuple #[v, .bool true] else v)
        | none => some (if ok then .tuple #[z, .bool false] else z)) = some r →
      ((do Instr.checkKey es.isEmpty 10000 tk (.int k n)
           let x ← Instr.findKey tk (.int k n) es.toList
           let (v, o) ← match x with
             | some (_, v) => pure (v, true)
             | none => pure (← zeroValue te, false)
           pure (if ok then .tuple #[v, .bool o] else v) : Sem Value)).run P w = .ok r w := by
    intro es k n hint hr
    obtain ⟨q, hq, hqm⟩ := run_findKey (P := P) (n := n) w hk hint
    rw [Sem.run_bind, run_checkKey_int (kk := kk) _ _ _ 9999 w hk, Result.andThen_ok, Sem.run_bind, hq, Result.andThen_ok]
    cases q with
    | none =>
      simp at hqm
      rw [← hqm] at hr
      simp at hr
      simp [run_zeroValue w hz, hr]
    | some iv =>
      simp at hqm
      rw [← hqm] at hr
      simp at hr
      simp [hr]
  unfold lkpV at h
  split at h
  · rename_i rr k n
    cases rr with
    | none =>
      simp only at h
      split at h
      · rename_i hint
        have := main #[] k n hint h
        simp only [Instr.lookup, Sem.run_bind, run_underlying hu, Result.andThen_ok, Sem.run_pure] at this ⊢
        exact this
      · cases h
    | some b =>
      cases hb : w.heap[b]? with
      | none => simp [hb] at h
      | some o =>
        cases o <;> simp only [hb, reduceCtorEq] at h
        case map es c =>
          split at h
          · rename_i hint
            have := main es k n hint h
            simp only [Instr.lookup, Sem.run_bind, run_underlying hu, Result.andThen_ok, Sem.run_pure, run_getMap hb] at this ⊢
            exact this
          · cases h
  · cases h

theorem fill_eq {e : Env} {place : Nat → Option (Nat × Nat)} : ∀ (l : List (Nat × Operand)) (r : List (Nat × Nat × Operand)) (z : Array Value), resolveParts place l = some r →
    Instr.fill place z (l.map fun (i, x) => (i, ev e x)) = fillV e z r := by
  intro l
  induction l with
  | nil => intro r z h; simp [resolveParts] at h; subst h; rfl
  | cons p l ih =>
    intro r z h
    obtain ⟨i, x⟩ := p
    simp only [resolveParts, List.mapM_cons, Option.bind_eq_bind, Option.pure_def] at h
    cases hp : place i with
    | none => simp [hp] at h
    | some os =>
      obtain ⟨o, s⟩ := os
      simp only [hp, Option.map_some, Option.bind_some] at h
      cases hr : resolveParts place l with
      | none => rw [show l.mapM _ = resolveParts place l from rfl, hr] at h; simp at h
      | some r' =>
        rw [show l.mapM _ = resolveParts place l from rfl, hr] at h
        simp at h
        subst h
        simp only [List.map_cons, Instr.fill, hp, fillV]
        split
        · rfl
        · exact ih r' _ hr

theorem run_bndV {P : Program} {v : Value} {y n : Nat} {code : BoundsCode} (w : World) (h : bndV v y = some n) : (Instr.sliceBound v y code).run P w = .ok n w := by
  unfold bndV at h
  split at h
  · split at h
    · rename_i hc; simp at h; subst h; simp [Instr.sliceBound, asIntOf, hc.1, hc.2]
    · cases h
  · cases h
theorem run_sliceBounds {P : Program} {b : Bool} {len cap : Nat} {lo hi mx : Option Value} {m h l : Nat} (w : World)
    (hm : (match mx with | some v => bndV v cap | none => some cap) = some m)
    (hh : (match hi with | some v => bndV v m | none => if mx.isSome then none else some len) = some h)
    (hl : (match lo with | some v => bndV v h | none => some 0) = some l) :
    (Instr.sliceBounds b len cap lo hi mx).run P w = .ok (l, h, m) w := by
  cases mx with
  | none =>
    simp at hm; subst hm
    cases hi with
    | none =>
      simp at hh; subst hh
      cases lo with
      | none => simp at hl; subst hl; simp [Instr.sliceBounds]
      | some v => simp at hl; simp [Instr.sliceBounds, run_bndV w hl]
    | some u =>
      simp at hh
      cases lo with
      | none => simp at hl; subst hl; simp [Instr.sliceBounds, run_bndV w hh]
      | some v => simp at hl; simp [Instr.sliceBounds, run_bndV w hh, run_bndV w hl]
  | some x =>
    simp at hm
    cases hi with
    | none => simp at hh
    | some u =>
      simp at hh
      cases lo with
      | none => simp at hl; subst hl; simp [Instr.sliceBounds, run_bndV w hm, run_bndV w hh]
      | some v => simp at hl; simp [Instr.sliceBounds, run_bndV w hm, run_bndV w hh, run_bndV w hl]

theorem slcV_spec {size len cap : Nat} {a : Option Addr} {lo hi mx : Option Value} {r : Value} (h : slcV size a len cap lo hi mx = some r) :
    ∃ m h l, (match mx with | some v => bndV v cap | none => some cap) = some m ∧ (match hi with | some v => bndV v m | none => if mx.isSome then none else some len) = some h ∧
      (match lo with | some v => bndV v h | none => some 0) = some l ∧ r = .slice (if m = l then a else a.map (·.add (l * size))) (h - l) (m - l) := by
  unfold slcV at h
  split at h
  · cases h
  · rename_i m hm
    split at h
    · cases h
    · rename_i hh hhe
      split at h
      · cases h
      · rename_i l hl
        simp at h
        exact ⟨m, hh, l, hm, hhe, hl, h.symm⟩

theorem equal_bool {P : Program} {t : TypeId} (w : World) (hu : P.underlying t = some .bool) (a b : Bool) : (Op.equal t (.bool a) (.bool b)).run P w = .ok (a == b) w := by
  have : ∀ n, (Op.equalIn (n + 1) t (.bool a) (.bool b)).run P w = .ok (a == b) w := fun n => by simp [Op.equalIn, run_underlying hu]
  exact this 9999

theorem optK_spec {α : Type} {o : Option α} {K : α → Prop} (h : optK o K) : ∃ v, o = some v ∧ K v := by
  cases o with
  | none => exact h.elim
  | some v => exact ⟨v, rfl, h⟩

/-- The looked-up operations are sound for the model's. -/
theorem symOp_sound {P : Program} (o : Oper) (e : Env) (w : World) (K : Value → World → Prop) (h : symOp P (toOp P o) e w K) : softK ((execOp (ev e) o).run P w) K := by
  obtain ⟨d, op, ty, pos, af, g⟩ := o
  cases op with
  | move x => simpa [toOp, symOp, valK, execOp, softK] using h
  | assign x => simpa [toOp, symOp, valK, execOp, softK] using h
  | pick c x y =>
    simp only [toOp, symOp, valK] at h
    split at h
    · rename_i hc; simpa [execOp, softK, asBool, hc] using h
    · rename_i hc; simpa [execOp, softK, asBool, hc] using h
    · exact h.elim
  | load t x =>
    simp only [toOp] at h
    cases hu : P.underlying t with
    | none => simp only [hu, symOp] at h
    | some d =>
      simp only [hu] at h
      by_cases hd : isAggD d = true
      · simp only [if_pos hd, symOp, valK] at h
        split at h
        · rename_i a ha
          obtain ⟨u, hl, hk⟩ := optK_spec h
          have := run_loadN (P := P) w a _ 0 #[] u hl
          simpa [execOp, Instr.loadAt, Instr.sureAddr, ha, loadVar, run_isAgg hu, hd, run_sizeOf' (info_of_underlying hu), loadCells, this, softK] using hk
        · exact h.elim
      · simp only [if_neg hd, symOp, valK] at h
        split at h
        · rename_i a ha
          obtain ⟨u, hl, hk⟩ := optK_spec h
          simp only [Bool.not_eq_true] at hd
          simpa [execOp, Instr.loadAt, Instr.sureAddr, ha, loadVar, run_isAgg hu, hd, hl, softK] using hk
        · exact h.elim
  | store t x y =>
    simp only [toOp] at h
    cases hu : P.underlying t with
    | none => simp only [hu, symOp] at h
    | some d =>
      simp only [hu] at h
      by_cases hd : isAggD d = true
      · simp only [if_pos hd, symOp, valK] at h
        split at h
        · rename_i a ha
          obtain ⟨w', hl, hk⟩ := optK_spec h
          split at hl
          · rename_i hsz
            have hss := run_storeN (P := P) a _ _ _ _ hl
            simp only [Array.size_eq_length_toList] at hsz
            have hst : (storeVar t a (ev e y)).run P w = .ok () w' := by
              unfold storeVar
              rw [Sem.run_bind, run_sizeOf' (info_of_underlying hu), Result.andThen_ok, if_neg (by simpa using hsz)]
              exact hss
            simpa [execOp, Instr.storeAt, Instr.sureAddr, ha, hst, softK] using hk
          · cases hl
        · exact h.elim
      · simp only [if_neg hd] at h
        by_cases h1 : P.cellsOf t = 1
        · simp only [if_pos h1, symOp, valK] at h
          split at h
          · rename_i a ha
            obtain ⟨w', hl, hk⟩ := optK_spec h
            split at hl
            · rename_i hc
              simp only [Bool.and_eq_true, Bool.not_eq_true', Option.isSome_iff_exists] at hc
              obtain ⟨⟨hi1, u, hi2⟩, hi3⟩ := hc
              simp at hl
              subst hl
              simpa [execOp, Instr.storeAt, Instr.sureAddr, ha, storeVar, run_sizeOf' (info_of_underlying hu), h1, isCell_cells hi1, storeCells, Addr.add, run_store1 (P := P) hi1 hi2 hi3, softK] using hk
            · cases hl
          · exact h.elim
        · simp only [if_neg h1, symOp] at h
  | nilCheck x =>
    simp only [toOp, symOp] at h
    obtain ⟨v, hv, hK⟩ := optK_spec h
    unfold nilF at hv
    split at hv
    · rename_i a ha; simp at hv; subst hv; simpa [execOp, ha, softK] using hK
    · rename_i f c d ha; simp at hv; subst hv; simpa [execOp, ha, softK] using hK
    · rename_i name f c ha
      split at hv
      · rename_i t u hf
        split at hv
        · rename_i hok
          simp at hv; subst hv
          have hr := hok w
          simp only [execOp, ha, hf, Sem.run_bind, run_program, Result.andThen_ok, hr]
          exact hK
        · cases hv
      · cases hv
    · cases hv
  | binOp op t x y yt =>
    simp only [toOp] at h
    cases hu : P.underlying t with
    | none => simp only [hu, symOp] at h
    | some d =>
      cases d with
      | int k =>
        simp only [hu, symOp, valK] at h
        obtain ⟨r, hr, hk⟩ := optK_spec h
        have := run_binV (P := P) (t := t) (x := x) (y := y) w hr
        simp only [execOp, Sem.run_bind, Sem.run_bind] at this ⊢
        simpa [this, softK] using hk
      | bool =>
        simp only [hu] at h
        have key : ∀ neg, op = (if neg then .neq else .eql) → symOp P (.beq neg x y) e w K → softK ((execOp (ev e) ⟨d, .binOp op t x y yt, ty, pos, af, g⟩).run P w) K := by
          intro neg hop hs
          simp only [symOp, valK] at hs
          split at hs
          · rename_i a b ha hb
            cases neg <;> simp at hop <;> subst hop
            · simpa [execOp, ha, hb, eqGuard_bool, binOp, equal_bool w hu, softK] using hs
            · simpa [execOp, ha, hb, eqGuard_bool, binOp, equal_bool w hu, softK] using hs
          · exact hs.elim
        cases op <;> simp only [symOp] at h
        · exact key false rfl h
        · exact key true rfl h
      | _ =>
        simp only [hu] at h
        split at h
        · rename_i k hk
          have key : ∀ neg, op = (if neg then .neq else .eql) → symOp P (.eqn k neg x) e w K → softK ((execOp (ev e) ⟨d, .binOp op t x y yt, ty, pos, af, g⟩).run P w) K := by
            intro neg hop hs
            simp only [symOp, valK] at hs
            obtain ⟨b, hb, hK⟩ := optK_spec hs
            have hrun := run_nilV (P := P) e w hu hk hb
            have hgd := nilV_guard (u := ev e y) op t x y hb
            have hb2 : (binOp op t (ev e x) (ev e y)).run P w = .ok (.bool (if neg then !b else b)) w := by
              revert hb hrun
              generalize ev e x = vx
              generalize ev e y = vy
              intro hb hrun
              cases vx <;> simp only [nilV, reduceCtorEq] at hb <;> cases neg <;> simp at hop <;> subst hop <;> simp [binOp, hrun]
            simpa [execOp, hgd, hb2, softK] using hK
          cases op <;> simp only [symOp] at h
          · exact key false rfl h
          · exact key true rfl h
        · simp only [symOp] at h
  | unOp op t x =>
    simp only [toOp, symOp, valK] at h
    split at h
    · rename_i b hb; simpa [execOp, hb, Op.unary, softK] using h
    · rename_i k n hb; simpa [execOp, hb, Op.unary, Op.intArith, softK] using h
    · exact h.elim
  | fieldAddr s x f =>
    simp only [toOp] at h
    split at h
    · rename_i fs hu
      split at h
      · rename_i fd hf
        split at h
        · rename_i hc
          simp only [Bool.and_eq_true, decide_eq_true_eq] at hc
          simp only [symOp, valK] at h
          split at h
          · rename_i a ha
            have hp : (fieldPlace a fd).run P w = .ok (a.add fd.offset) w := by
              unfold fieldPlace
              rw [Sem.run_bind, run_sizeOf' hc.1, Result.andThen_ok, if_neg hc.2]
              rfl
            simpa [execOp, Instr.fieldAt, run_underlying hu, hf, Instr.sureAddr, ha, hp, softK] using h
          · exact h.elim
        · simp only [symOp] at h
      · simp only [symOp] at h
    · simp only [symOp] at h
  | field s x f =>
    simp only [toOp] at h
    split at h
    · rename_i fs hu
      split at h
      · rename_i fd hf
        split at h
        · rename_i d hd
          simp only [symOp, valK] at h
          split at h
          · rename_i cs hx
            by_cases hg : isAggD d = true
            · rw [if_pos hg] at h
              simpa [execOp, Instr.field, run_underlying hu, hf, asAgg, hx, part, run_isAgg hd, hg, run_sizeOf' (info_of_underlying hd), softK] using h
            · rw [if_neg hg] at h
              obtain ⟨u, hcu, hK⟩ := optK_spec h
              simp only [Bool.not_eq_true] at hg
              simpa [execOp, Instr.field, run_underlying hu, hf, asAgg, hx, part, run_isAgg hd, hg, hcu, softK] using hK
          · exact h.elim
        · simp only [symOp] at h
      · simp only [symOp] at h
    · simp only [symOp] at h
  | indexAddr t x i =>
    simp only [toOp] at h
    split at h
    · rename_i el hu
      split at h
      · rename_i hi
        simp only [symOp, valK] at h
        split at h
        · rename_i a len cap k n hx hn
          obtain ⟨a', ha', hK⟩ := optK_spec h
          split at ha'
          · rename_i hc
            simp at ha'; subst ha'
            have hrun : (Instr.indexAt t (ev e x) (ev e i)).run P w = .ok (.pointer (some (a.add (n.toNat * P.cellsOf el)))) w := by
              simp only [Instr.indexAt, hx, hn, asIntOf, Sem.run_bind, Sem.run_pure, Result.andThen_ok, run_underlying hu]
              simp [hc.1, hc.2, run_sizeOf' hi]
            simpa [execOp, hrun, softK] using hK
          · cases ha'
        · exact h.elim
      · simp only [symOp] at h
    · rename_i n el hu
      split at h
      · rename_i hi
        simp only [Bool.and_eq_true, decide_eq_true_eq] at hi
        simp only [symOp, valK] at h
        split at h
        · rename_i a k m hx hn
          obtain ⟨a', ha', hK⟩ := optK_spec h
          split at ha'
          · rename_i hc
            simp at ha'; subst ha'
            have hrun : (Instr.indexAt t (ev e x) (ev e i)).run P w = .ok (.pointer (some (a.add (m.toNat * P.cellsOf el)))) w := by
              simp only [Instr.indexAt, hx, hn, asIntOf, Instr.sureAddr, Sem.run_bind, Sem.run_pure, Result.andThen_ok, run_underlying hu]
              simp [hc.1, hc.2, run_sizeOf' hi.1]
            simpa [execOp, hrun, softK] using hK
          · cases ha'
        · exact h.elim
      · simp only [symOp] at h
    · simp only [symOp] at h
  | index t x i =>
    simp only [toOp] at h
    split at h
    · rename_i n el hu
      split at h
      · rename_i d hd
        simp only [symOp, valK] at h
        split at h
        · rename_i cs k m hx hn
          split at h
          · rename_i hc
            by_cases hg : isAggD d = true
            · rw [if_pos hg] at h
              simpa [execOp, Instr.index, run_underlying hu, hx, hn, asIntOf, hc.1, hc.2, part, run_isAgg hd, hg, run_sizeOf' (info_of_underlying hd), softK] using h
            · rw [if_neg hg] at h
              obtain ⟨u, hcu, hK⟩ := optK_spec h
              simp only [Bool.not_eq_true] at hg
              simpa [execOp, Instr.index, run_underlying hu, hx, hn, asIntOf, hc.1, hc.2, part, run_isAgg hd, hg, run_sizeOf' (info_of_underlying hd), hcu, softK] using hK
          · exact h.elim
        · exact h.elim
      · simp only [symOp] at h
    · rename_i hu
      simp only [symOp, valK] at h
      split at h
      · rename_i s k m hx hn
        split at h
        · rename_i hc
          obtain ⟨u, hcu, hK⟩ := optK_spec h
          simpa [execOp, Instr.index, run_underlying hu, hx, hn, asIntOf, hc, hcu, softK] using hK
        · exact h.elim
      · exact h.elim
    · simp only [symOp] at h
  | extract x i =>
    simp only [toOp, symOp, valK] at h
    split at h
    · rename_i vs hx
      obtain ⟨u, hcu, hK⟩ := optK_spec h
      simpa [execOp, Instr.extract, hx, hcu, softK] using hK
    · exact h.elim
  | box t x =>
    simp only [toOp, symOp, valK] at h
    exact h
  | alloc t =>
    simp only [toOp] at h
    split at h
    · rename_i z hz
      simp only [symOp] at h
      simp only [execOp, Instr.alloc, Sem.run_bind, run_zeroValue w hz, Result.andThen_ok]
      exact h
    · simp only [symOp] at h
  | build t parts =>
    simp only [toOp] at h
    split at h
    · rename_i fs z hu hz
      split at h
      · rename_i ps hps
        split at h
        · rename_i l hl
          simp only [symOp] at h
          obtain ⟨cs, hcs, hK⟩ := optK_spec h
          have hb : P.built t (parts.map fun (i, x) => (i, ev e x)).toList = some cs := by
            obtain ⟨it, hi, hzz⟩ := Option.bind_eq_some_iff.1 hz
            unfold Program.built
            unfold places at hps
            simp only [hi, hu, hzz, hps]
            rw [← hcs, ← fill_eq _ _ _ hl]
            simp
          have hrun := run_build w t _ cs hb
          simpa [execOp, hrun, softK] using hK
        · simp only [symOp] at h
      · simp only [symOp] at h
    · rename_i n el z hu hz
      split at h
      · rename_i ie hie
        split at h
        · rename_i l hl
          simp only [symOp] at h
          obtain ⟨cs, hcs, hK⟩ := optK_spec h
          have hb : P.built t (parts.map fun (i, x) => (i, ev e x)).toList = some cs := by
            obtain ⟨it, hi, hzz⟩ := Option.bind_eq_some_iff.1 hz
            unfold Program.built
            simp only [hi, hu, hzz, hie]
            rw [← hcs, ← fill_eq _ _ _ hl]
            simp
          have hrun := run_build w t _ cs hb
          simpa [execOp, hrun, softK] using hK
        · simp only [symOp] at h
      · simp only [symOp] at h
    · simp only [symOp] at h
  | buildSlice t n parts =>
    simp only [toOp] at h
    split at h
    · rename_i el hu
      split at h
      · rename_i ie hie
        split at h
        · rename_i z hz
          split at h
          · rename_i l hl
            split at h
            · rename_i hle
              simp only [symOp] at h
              obtain ⟨cs, hcs, hK⟩ := optK_spec h
              have hz' : (zeroValue el).run P w = .ok z w := run_zeroValue w (by simp [hie, hz])
              have hs' : (sizeOf el).run P w = .ok ie.size w := by simp [sizeOf, typeInfo, hie]
              rw [← fill_eq _ _ _ hl] at hcs
              have hrun : (Instr.buildSlice t n (parts.map fun (i, x) => (i, ev e x))).run P w = .ok (.slice (some ⟨w.heap.size, 0, none⟩) n n) (w.alloc (.cells cs el)) := by
                simp only [Instr.buildSlice, Sem.run_bind, run_underlying hu, Result.andThen_ok, hs']
                rw [if_neg (by have : (4096 : Nat) ≤ 2 ^ 24 := by decide
                               omega)]
                by_cases h0 : n * ie.size = 0
                · have hcs' : Instr.fill (fun i => some (i * ie.size, ie.size)) ((Array.range (n * ie.size)).map fun x => (#[] : Array Value)[x % (#[] : Array Value).size]!) (parts.toList.map fun (i, x) => (i, ev e x)) = some cs := by
                    rw [← hcs]; congr 1; simp [h0]
                  simp only [Sem.run_bind, if_pos h0, Sem.run_pure, Result.andThen_ok, Array.toList_map, hcs']
                  rfl
                · simp only [Sem.run_bind, if_neg h0, hz', Sem.run_pure, Result.andThen_ok, Array.toList_map, hcs]
                  rfl
              simp only [execOp, Sem.run_bind, hrun, Result.andThen_ok, Sem.run_pure, softK]
              exact hK
            · simp only [symOp] at h
          · simp only [symOp] at h
        · simp only [symOp] at h
      · simp only [symOp] at h
    · simp only [symOp] at h
  | makeMap t r =>
    cases r with
    | none => simp only [toOp, symOp] at h; exact h
    | some r => simp only [toOp, symOp] at h
  | makeInterface t x =>
    simp only [toOp] at h
    split at h
    · simp only [symOp] at h
    · rename_i d hne hu
      simp only [symOp, valK] at h
      have hrun : (Instr.makeInterface t (ev e x)).run P w = .ok (.iface t (ev e x)) w := by
        simp only [Instr.makeInterface, Sem.run_bind, run_underlying hu, Result.andThen_ok]
        cases d <;> first | rfl | exact absurd rfl (hne _)
      simpa [execOp, hrun, softK] using h
    · simp only [symOp] at h
  | makeFunc fn first captured =>
    simp only [toOp, symOp, valK] at h
    rw [← Array.toList_map, ← Array.toList_map, Array.toArray_toList, Array.toArray_toList] at h
    exact h
  | call c =>
    obtain ⟨cal, args, ats⟩ := c
    cases cal with
    | builtin b =>
      cases b <;> try (simp only [toOp, symOp] at h; done)
      simp only [toOp] at h
      split at h
      · rename_i x t hx ht
        have hargs : args = #[x] := by rw [← Array.toArray_toList (xs := args), hx]
        have hats : ats = #[t] := by rw [← Array.toArray_toList (xs := ats), ht]
        subst hargs; subst hats
        split at h
        · rename_i el hu
          simp only [symOp, valK] at h
          split at h <;> try (first | exact h.elim | (exfalso; omega))
          rename_i a n c _ hx'
          simpa [execOp, resolve, invoke, builtin, Builtin.len_, run_underlying hu, hx', goInt, softK] using h
        · rename_i hu
          simp only [symOp, valK] at h
          split at h <;> try (first | exact h.elim | (exfalso; omega))
          rename_i s _ hx'
          simpa [execOp, resolve, invoke, builtin, Builtin.len_, run_underlying hu, hx', goInt, softK] using h
        · rename_i k el hu
          simp only [symOp, valK] at h
          split at h <;> try (first | exact h.elim | (exfalso; omega))
          · rename_i _ hx'
            simpa [execOp, resolve, invoke, builtin, Builtin.len_, run_underlying hu, hx', goInt, softK] using h
          · rename_i r _ hx'
            split at h
            · rename_i es c hb
              simpa [execOp, resolve, invoke, builtin, Builtin.len_, run_underlying hu, hx', run_getMap hb, goInt, softK] using h
            · exact h.elim
        · simp only [symOp] at h
      · simp only [symOp] at h
    | value f => cases f <;> simp only [toOp] at h <;> first | (split at h <;> simp only [symOp] at h) | simp only [symOp] at h
    | invoke r m => simp only [toOp, symOp] at h
  | slice t x lo hi mx =>
    simp only [toOp] at h
    split at h
    · rename_i el hu
      split at h
      · rename_i hi'
        simp only [symOp, valK] at h
        split at h
        · rename_i a len cap hx
          obtain ⟨r, hr, hK⟩ := optK_spec h
          obtain ⟨m, hh, l, h1, h2, h3, rfl⟩ := slcV_spec hr
          have hb := run_sliceBounds (P := P) (b := true) w h1 h2 h3
          have hrun : (Instr.sliceAt t (ev e x) (lo.map (ev e)) (hi.map (ev e)) (mx.map (ev e))).run P w = .ok (.slice (if m = l then a else a.map (·.add (l * P.cellsOf el))) (hh - l) (m - l)) w := by
            simp only [Instr.sliceAt, Sem.run_bind, run_underlying hu, Result.andThen_ok, Instr.slice, hx, hb, run_sizeOf' hi', Sem.run_pure]
          simpa [execOp, hrun, softK] using hK
        · exact h.elim
      · simp only [symOp] at h
    · rename_i n el hu
      split at h
      · rename_i hi'
        simp only [symOp, valK] at h
        split at h
        · rename_i a hx
          obtain ⟨r, hr, hK⟩ := optK_spec h
          obtain ⟨m, hh, l, h1, h2, h3, rfl⟩ := slcV_spec hr
          have hb := run_sliceBounds (P := P) (b := false) w h1 h2 h3
          have hrun : (Instr.sliceAt t (ev e x) (lo.map (ev e)) (hi.map (ev e)) (mx.map (ev e))).run P w = .ok (.slice (if m = l then some a else (some a).map (·.add (l * P.cellsOf el))) (hh - l) (m - l)) w := by
            simp only [Instr.sliceAt, Sem.run_bind, run_underlying hu, Result.andThen_ok, hx, Instr.sureAddr, hb, run_sizeOf' hi', Sem.run_pure]
            split <;> rfl
          simpa [execOp, hrun, softK] using hK
        · exact h.elim
      · simp only [symOp] at h
    · simp only [symOp] at h
  | lookup t x i ok =>
    simp only [toOp] at h
    split at h
    · rename_i k el hu
      split at h
      · rename_i kk z hk hz
        simp only [symOp, valK] at h
        obtain ⟨r, hr, hK⟩ := optK_spec h
        have hrun := run_lkpV (P := P) w hu hk hz hr
        simpa [execOp, hrun, softK] using hK
      · simp only [symOp] at h
    · simp only [symOp] at h
  | convert s d x =>
    simp only [toOp] at h
    split at h
    · rename_i k1 k2 hs hd
      simp only [symOp, valK] at h
      split at h
      · rename_i k n hx
        simpa [execOp, convert, run_underlying hs, run_underlying hd, hx, Conv.intToInt, softK] using h
      · exact h.elim
    · simp only [symOp] at h
  | typeAssert x xt t ok =>
    simp only [toOp] at h
    split at h
    · simp only [symOp] at h
    · rename_i d z hne hu hz
      simp only [symOp, valK] at h
      split at h
      · rename_i t' u hx
        have hz' := run_zeroValue (P := P) w hz
        have hrun : (Instr.typeAssert (ev e x) xt t ok).run P w = (if t' = t then .ok (if ok then .tuple #[u, .bool true] else u) w else if ok then .ok (.tuple #[z, .bool false]) w else (runtimePanic (.typeAssertion (some xt) (some t') t "") : Sem Value).run P w) := by
          simp only [Instr.typeAssert, Sem.run_bind, run_underlying hu, Result.andThen_ok, hx]
          cases d <;> first | exact absurd rfl (hne _) | (by_cases h1 : t' = t <;> cases ok <;> simp [h1, hz'])
        by_cases h1 : t' = t
        · simp only [if_pos h1] at h hrun
          simpa [execOp, hrun, softK] using h
        · simp only [if_neg h1] at h hrun
          cases ok
          · simp at h
          · simpa [execOp, hrun, softK] using h
      · exact h.elim
    · simp only [symOp] at h
  | _ => simp only [toOp, symOp] at h

/-- One operation of a region: the slot that it writes, what it does, its guard (a slot and what it must hold). -/
structure GOp where
  d : Option Nat
  s : SOp
  g : Option (Nat × Bool) := none

inductive SCode where
  | skip
  | ops (l : List GOp)
  | raw (c : Code)
  | seq (x y : SCode)
  | cond (c : Operand) (x y : SCode)
  | block (i : Nat) (c : SCode)
  | loop (c : SCode)
  | exit (i : Nat)
  | ret

def guardOf (ops : Array Oper) : Option (Nat × Bool) → Option (Option (Nat × Bool))
  | none => some none
  | some (j, want) => match (ops[j]?).bind (·.dst) with
    | some t => some (some (t, want))
    | none => none

def toOps (P : Program) (ops : Array Oper) : List Oper → Option (List GOp)
  | [] => some []
  | o :: l => match guardOf ops o.guard, toOps P ops l with
    | some g, some r => some (⟨o.dst, toOp P o, g⟩ :: r)
    | _, _ => none

def toS (P : Program) : Code → SCode
  | .skip => .skip
  | .region id ops false => match toOps P ops ops.toList with
    | some l => .ops l
    | none => .raw (.region id ops false)
  | .region id ops true => .raw (.region id ops true)
  | .seq x y => .seq (toS P x) (toS P y)
  | .cond c x y => .cond c (toS P x) (toS P y)
  | .block i c => .block i (toS P c)
  | .loop c => .loop (toS P c)
  | .exit i => .exit i
  | .ret => .ret
  | .scope c => toS P c
  | .label _ => .skip
  | c => .raw c

/-- At an operation that is not plain: as the model has it. -/
def hardOp (P : Program) (o : Oper) (K : Value → World → Prop) (p : List PanicEntry → World → Prop) (e : Env) (w : World) : Prop :=
  hardK P ((execOp (ev e) o).run P w) K p ∨ asksE P o e w

def guardK (g : Option (Nat × Bool)) (e : Env) (A B : Prop) : Prop :=
  match g with
  | none => A
  | some (t, want) => valK (e t) fun v => match v with
    | .bool b => if b = want then A else B
    | _ => B

def symOps (P : Program) : List GOp → Kont → Env → World → Prop
  | [], k, e, w => k.n e w
  | ⟨d, s, g⟩ :: l, k, e, w =>
    guardK g e (match s with
      | .hard o => hardOp P o (fun v w' => symOps P l k (updO e d v) w') k.p e w
      | .call f args => Calls P f (args.map (ev e)).toArray w (Out (fun v w' => symOps P l k (updO e d v) w') k.p)
      | s => symOp P s e w (fun v w' => symOps P l k (updO e d v) w'))
      (symOps P l k (updO e d undef) w)

/-- The plain reading of code. -/
def symS (n : Nat) (P : Program) : SCode → Kont → Env → World → Prop
  | .skip, k, e, w => k.n e w
  | .ops l, k, e, w => symOps P l k e w
  | .raw c, k, e, w => ∀ a, Rel n a e → c.wp P (lift n k) a w
  | .seq x y, k, e, w => symS n P x ⟨symS n P y k, k.x, k.r, k.p⟩ e w
  | .cond c x y, k, e, w => valK (ev e c) fun v => match v with
    | .bool true => symS n P x k e w
    | .bool false => symS n P y k e w
    | _ => False
  | .block i c, k, e, w => symS n P c ⟨k.n, fun j => if j = i then k.n else k.x j, k.r, k.p⟩ e w
  | .exit i, k, e, w => k.x i e w
  | .ret, k, e, w => k.r e w
  | .loop c, k, e, w => ∃ (I : Env → World → Prop) (μ : Env → World → Nat), I e w ∧
      ∀ e w, I e w → symS n P c ⟨fun e' w' => I e' w' ∧ μ e' w' < μ e w, k.x, k.r, k.p⟩ e w

/-- All slots that the code writes are slots of the frame. -/
def fitsOps (n : Nat) (l : List Oper) : Bool := l.all fun o => match o.dst with | some d => decide (d < n) | none => true
def fits (n : Nat) : Code → Bool
  | .region _ ops _ => fitsOps n ops.toList
  | .seq x y => fits n x && fits n y
  | .cond _ x y => fits n x && fits n y
  | .block _ c => fits n c
  | .loop c => fits n c
  | .scope c => fits n c
  | _ => true

theorem yielded_eq {n : Nat} {a : Act} {e : Env} (h : Rel n a e) (ops : Array Oper) (j t : Nat) (hj : (ops[j]?).bind (·.dst) = some t) :
    yielded ops a.tmps j = match e t with | .bool b => some b | _ => none := by
  unfold yielded
  have hv := h.val t
  rw [hj, Option.bind_some]
  cases hx : a.tmps[t]? with
  | none => rw [Array.getD_eq_getD_getElem?, hx] at hv; simp at hv; rw [← hv]; simp [undef]
  | some v => rw [Array.getD_eq_getD_getElem?, hx] at hv; simp at hv; rw [hv]; cases e t <;> rfl

theorem wp_of_hardK {n : Nat} {P : Program} {o : Oper} {k : Kont} {next : Env → World → Prop} {K : Act → World → Prop} {a : Act} {e : Env} {w : World}
    (h : Rel n a e) (hd : ∀ t, o.dst = some t → t < n) (hK : ∀ a e w, Rel n a e → next e w → K a w)
    (hh : hardK P ((execOp (ev e) o).run P w) (fun v w' => next (updO e o.dst v) w') k.p) : o.wp P a w K (lift n k) := by
  unfold Oper.wp
  rw [h.eval]
  generalize (execOp (ev e) o).run P w = r at *
  cases r with
  | ok x w' =>
    cases x <;> simp only [hardK] at hh <;> simp only [Oper.upon]
    case value v => exact hK _ _ _ (h.put hd v) hh
    case skip => exact hK _ _ _ (h.put hd undef) hh
    case enter f args =>
      refine Calls.mono hh fun en w'' he => ?_
      cases en with
      | returned v => exact hK _ _ _ (h.put hd v) he
      | panicked c => exact ⟨h.defers, he⟩
      | outgrown => exact (he : False).elim
  | halt x w' =>
    cases x <;> simp only [hardK] at hh
    case panic v => exact ⟨h.defers, hh⟩

theorem hard_of_soft {P : Program} {r : Result Next} {K : Value → World → Prop} {p : List PanicEntry → World → Prop} (h : softK r K) : hardK P r K p := by
  cases r with
  | ok x w' => cases x <;> simp only [softK] at h <;> exact h
  | halt x w' => cases x <;> simp only [softK] at h

theorem toOp_hard {P : Program} {o o' : Oper} (h : toOp P o = .hard o') : o' = strip o := by
  unfold toOp at h
  repeat' split at h
  all_goals first | (cases h; rfl) | (cases h; done)

theorem toOp_call {P : Program} {o : Oper} {f : FuncId} {args : List Operand} (h : toOp P o = .call f args) :
    callable P f = true ∧ ∃ c : Call, o.op = .call c ∧ (c.callee = .value (.func f) ∧ args = c.args.toList) := by
  unfold toOp at h
  repeat' split at h
  all_goals first
    | (cases h; done)
    | (rename_i hop hc; cases h; exact ⟨hc, _, hop, rfl, rfl⟩)
theorem run_call {P : Program} {o : Oper} {f : FuncId} {c : Call} {e : Env} {w : World} (hc : callable P f = true) (hop : o.op = .call c) (hcal : c.callee = .value (.func f)) :
    (execOp (ev e) o).run P w = .ok (.enter f (c.args.toList.map (ev e)).toArray) w := by
  obtain ⟨d, op, ty, pos, af, g⟩ := o
  obtain ⟨cal, args, ats⟩ := c
  simp only at hop hcal
  subst hop; subst hcal
  unfold callable at hc
  cases hf : P.funcs[f]? with
  | none => simp [hf] at hc
  | some fn =>
    simp only [hf, Bool.and_eq_true, Bool.not_eq_true'] at hc
    have hn : ¬ ((fn.name == "runtime.NumGoroutine") = true) := by rw [hc.1]; simp
    have hb : ¬ (fn.body.isNone = true) := by cases hb : fn.body <;> simp [hb] at hc ⊢
    have hargs : (List.map (ev e) args.toList).toArray = args.map (ev e) := by rw [← Array.toList_map, Array.toArray_toList]
    simp only [execOp, resolve, ev, Deferred.ofValue, invoke, callFunc, Sem.run_bind, Sem.run_pure, Result.andThen_ok, run_program, hf, hn, hb, if_false, Bool.false_eq_true]
    simp [hargs]

theorem symOps_sound {n : Nat} {P : Program} {ops : Array Oper} {k : Kont} : ∀ (l : List Oper) (r : List GOp), toOps P ops l = some r → fitsOps n l = true → ∀ (a : Act) (e : Env) (w : World), Rel n a e →
    symOps P r k e w → wpList P ops (lift n k) l a w := by
  intro l
  induction l with
  | nil => intro r hr _ a e w h hk; simp [toOps] at hr; subst hr; exact ⟨e, h, hk⟩
  | cons o l ih =>
    intro r hr hf a e w h hk
    simp only [toOps] at hr
    split at hr
    case h_2 => cases hr
    rename_i g r' hg hr'
    simp at hr
    subst hr
    simp only [fitsOps, List.all_cons, Bool.and_eq_true] at hf
    have hd : ∀ t, o.dst = some t → t < n := fun t ht => by have := hf.1; simp [ht] at this; exact this
    have hl := ih r' hr' hf.2
    have one : (match toOp P o with
        | .hard o' => hardOp P o' (fun v w' => symOps P r' k (updO e o.dst v) w') k.p e w
        | .call f args => Calls P f (args.map (ev e)).toArray w (Out (fun v w' => symOps P r' k (updO e o.dst v) w') k.p)
        | s => symOp P s e w (fun v w' => symOps P r' k (updO e o.dst v) w')) →
        o.wp P a w (wpList P ops (lift n k) l) (lift n k) ∨ (o.asks P a w ∧ LetsOut (lift n k)) := by
      intro hs
      by_cases hh : ∃ o', toOp P o = .hard o'
      · obtain ⟨o', ho'⟩ := hh
        have hst := toOp_hard ho'
        subst hst
        simp only [ho'] at hs
        rcases hs with hs | hs
        · rw [execOp_strip] at hs
          exact .inl (wp_of_hardK (next := symOps P r' k) h hd (fun a e w hr hn => hl a e w hr hn) hs)
        · exact (hs : False).elim
      · by_cases hcl : ∃ f args, toOp P o = .call f args
        · obtain ⟨f, args, ho'⟩ := hcl
          simp only [ho'] at hs
          obtain ⟨hc, c, hop, hcal, rfl⟩ := toOp_call ho'
          refine .inl (wp_of_hardK (next := symOps P r' k) h hd (fun a e w hr hn => hl a e w hr hn) ?_)
          rw [run_call hc hop hcal]
          exact hs
        have hs' : symOp P (toOp P o) e w (fun v w' => symOps P r' k (updO e o.dst v) w') := by
          split at hs
          · rename_i o' ho'; exact absurd ⟨o', ho'⟩ hh
          · rename_i f args ho'; exact absurd ⟨f, args, ho'⟩ hcl
          · exact hs
        exact .inl (wp_of_hardK (next := symOps P r' k) h hd (fun a e w hr hn => hl a e w hr hn) (hard_of_soft (symOp_sound o e w _ hs')))
    simp only [symOps] at hk
    unfold wpList Region.wanted
    cases hgo : o.guard with
    | none =>
      simp only [hgo, guardOf] at hg
      simp at hg; subst hg
      simp only [if_true]
      exact one hk
    | some gw =>
      obtain ⟨j, want⟩ := gw
      simp only [hgo, guardOf] at hg
      split at hg
      case h_2 => cases hg
      rename_i t ht
      simp at hg; subst hg
      simp only [yielded_eq h ops j t ht]
      simp only [guardK, valK] at hk
      cases hb : e t <;> simp only [hb] at hk
      case bool b =>
        by_cases hbw : b = want
        · rw [if_pos hbw] at hk
          rw [if_pos (by simp [hbw])]
          exact one hk
        · rw [if_neg hbw] at hk
          rw [if_neg (by simpa using hbw)]
          exact hl _ _ _ (h.put hd undef) hk
      all_goals (rw [if_neg (by simp)]; exact hl _ _ _ (h.put hd undef) hk)

def envOf (a : Act) : Env := fun t => a.tmps.getD t undef
theorem Rel.env {n : Nat} {a : Act} {e : Env} (h : Rel n a e) : e = envOf a := funext fun t => (h.val t).symm


theorem symS_sound {n : Nat} {P : Program} : ∀ (c : Code), fits n c = true → ∀ (k : Kont) (a : Act) (e : Env) (w : World), Rel n a e →
    symS n P (toS P c) k e w → c.wp P (lift n k) a w := by
  intro c
  induction c with
  | skip => intro _ k a e w h hk; exact wp_skip ⟨e, h, hk⟩
  | region id ops draw =>
    intro hf k a e w h hk
    cases draw with
    | false =>
      simp only [toS] at hk
      split at hk
      · rename_i l hl; exact wp_region_list (symOps_sound ops.toList l hl hf a e w h hk)
      · exact hk a h
    | true => exact hk a h
  | seq x y ihx ihy =>
    intro hf k a e w h hk
    simp only [fits, Bool.and_eq_true] at hf
    refine wp_seq (Code.wp_mono (fun ex a' w' hq => ?_) (ihx hf.1 ⟨symS n P (toS P y) k, k.x, k.r, k.p⟩ a e w h hk))
    cases ex with
    | normal => obtain ⟨e', h', hn⟩ := hq; exact ihy hf.2 k a' e' w' h' hn
    | exit i => exact hq
    | goto l => exact hq
    | ret => exact hq
    | panic c => exact hq
    | outgrown => exact hq
  | cond c x y ihx ihy =>
    intro hf k a e w h hk
    simp only [fits, Bool.and_eq_true] at hf
    simp only [toS, symS, valK] at hk
    have he := congrFun h.eval c
    split at hk
    · rename_i hc; exact wp_cond_true (he.trans hc) (ihx hf.1 k a e w h hk)
    · rename_i hc; exact wp_cond_false (he.trans hc) (ihy hf.2 k a e w h hk)
    · exact hk.elim
  | block i c ih =>
    intro hf k a e w h hk
    refine wp_block (Code.wp_mono (fun ex a' w' hq => ?_) (ih hf _ a e w h hk))
    cases ex with
    | normal => exact hq
    | exit j =>
      obtain ⟨e', h', hx⟩ := hq
      simp only [Exit.inBlock]
      by_cases hj : j = i
      · rw [if_pos hj]; simp only [if_pos hj] at hx; exact ⟨e', h', hx⟩
      · rw [if_neg hj]; simp only [if_neg hj] at hx; exact ⟨e', h', hx⟩
    | goto l => exact hq
    | ret => exact hq
    | panic c => exact hq
    | outgrown => exact hq
  | exit i => intro _ k a e w h hk; exact wp_exit ⟨e, h, hk⟩
  | ret => intro _ k a e w h hk; exact wp_ret ⟨e, h, hk⟩
  | loop c ih =>
    intro hf k a e w h hk
    obtain ⟨I, μ, h₀, round⟩ := hk
    refine wp_loop (fun a w => Rel n a (envOf a) ∧ I (envOf a) w) (fun a w => μ (envOf a) w) ⟨h.env ▸ h, h.env ▸ h₀⟩ ?_
    rintro a w ⟨hr, hI⟩
    refine Code.wp_mono (fun ex a' w' hq => ?_) (ih hf _ a _ w hr (round _ _ hI))
    cases ex with
    | normal =>
      obtain ⟨e', h', hI', hm⟩ := hq
      have he := h'.env
      subst he
      exact ⟨⟨h', hI'⟩, hm⟩
    | exit i => exact hq
    | goto l => exact hq
    | ret => exact hq
    | panic c => exact hq
    | outgrown => exact hq
  | rangeFunc f ps as c _ _ => intro _ k a e w h hk; exact hk a h
  | scope c ih =>
    intro hf k a e w h hk
    refine wp_scope_straight (Code.wp_mono (fun ex a' w' hq => ?_) (ih hf k a e w h hk))
    cases ex with
    | goto l => exact (hq : False).elim
    | normal => exact hq
    | exit i => exact hq
    | ret => exact hq
    | panic c => exact hq
    | outgrown => exact hq
  | label l => intro _ k a e w h hk; exact wp_label ⟨e, h, hk⟩
  | goto l => intro _ k a e w h hk; exact hk a h
  | refuse s => intro _ k a e w h hk; exact hk a h

theorem getD_args (args : List Value) (m t : Nat) : (args.toArray ++ Array.replicate m undef).getD t undef = args.getD t undef := by
  rw [Array.getD_eq_getD_getElem?, Array.getElem?_append]
  split
  · simp [List.getD_eq_getElem?_getD]
  · rename_i h
    simp at h
    rw [List.getD_eq_getElem?_getD, List.getElem?_eq_none h]
    simp only [List.size_toArray, Array.getElem?_replicate]
    split <;> rfl

theorem initEnv_get : ∀ (l : List Value) (i : Nat) (e : Env) (t : Nat), initEnv l i e t = if i ≤ t ∧ t < i + l.length then l.getD (t - i) undef else e t := by
  intro l
  induction l with
  | nil => intro i e t; simp [initEnv]; intro h1 h2; omega
  | cons v l ih =>
    intro i e t
    simp only [initEnv, ih]
    by_cases h : t = i
    · subst h
      rw [if_neg (by omega), if_pos (by simp only [List.length_cons]; omega)]
      simp [upd]
    · by_cases h2 : i ≤ t ∧ t < i + (l.length + 1)
      · rw [if_pos (by omega), if_pos (by simpa using h2)]
        rw [show t - i = (t - (i + 1)) + 1 from by omega]; simp
      · rw [if_neg (by omega), if_neg (by simpa using h2)]
        simp [upd, h]

def oneOf : List Value → Value
  | [v] => v
  | l => .tuple l.toArray

theorem results_tmps {fn : Func} {ts : List Nat} (hl : ts.length ≤ 4) (h : fn.results = (ts.map ResultVar.tmp).toArray) (tmps : Array Value) (P : Program) (w : World) :
    (results fn tmps).run P w = .ok (oneOf (ts.map fun t => tmps.getD t undef)) w := by
  match ts, hl, h with
  | [], _, h => simp [results, h, oneOf]
  | [t], _, h => simp [results, h, oneOf]
  | [t, u], _, h => simp [results, h, oneOf]
  | [t, u, v], _, h => simp [results, h, oneOf]
  | [t, u, v, x], _, h => simp [results, h, oneOf]

/-- The parts of code that are left as the model has them, in order. -/
def raws : Code → List Code
  | .region id ops true => [.region id ops true]
  | .seq x y => raws x ++ raws y
  | .cond _ x y => raws x ++ raws y
  | .block _ c => raws c
  | .loop c => raws c
  | .rangeFunc f ps a c => [.rangeFunc f ps a c]
  | .scope c => raws c
  | _ => []
def rawOf (fn : Func) (i : Nat) : Code := (raws (fn.body.getD .skip)).getD i .skip
def bodyOf (fn : Func) : Code := fn.body.getD .skip
def H (op : Op) (ty : TypeId) : Oper := { dst := none, op, type := ty, pos := "", after := #[], guard := none }

/-- A call by the plain reading of its function's code. -/
theorem calls_sym {P : Program} {f : FuncId} {fn : Func} {c : Code} {args : List Value} {w : World} {Φ : Value → World → Prop} {Ψ : List PanicEntry → World → Prop} (n : Nat) (ts : List Nat)
    (hf : P.funcs[f]? = some fn) (hb : fn.body = some c) (hn : fn.ntmps = n) (hl : ts.length ≤ 4) (hr : fn.results = (ts.map ResultVar.tmp).toArray) (hfit : fits n c = true) (hargs : args.length ≤ n) {s : SCode} (hs : toS P c = s)
    (h : symS n P s ⟨fun e w => Φ (oneOf (ts.map e)) w, fun _ _ _ => False, fun e w => Φ (oneOf (ts.map e)) w, Ψ⟩ (initEnv args 0 env0) w) :
    Calls P f args.toArray w (Out Φ Ψ) := by
  refine calls_of_wp hf hb (Code.wp_mono (fun ex a' w' hq => ?_) (symS_sound c hfit _ _ _ w ?_ (hs ▸ h)))
  · cases ex with
    | normal =>
      obtain ⟨e, h1, h2⟩ := hq
      refine ⟨h1.defers, _, results_tmps hl hr _ _ _, ?_⟩
      simp only [h1.val]; exact h2
    | ret =>
      obtain ⟨e, h1, h2⟩ := hq
      refine ⟨h1.defers, _, results_tmps hl hr _ _ _, ?_⟩
      simp only [h1.val]; exact h2
    | exit i => obtain ⟨e, _, h2⟩ := hq; exact h2
    | panic c => exact hq
    | outgrown => exact (hq : False).elim
    | goto l => exact hq
  · refine ⟨by simp [hn]; omega, rfl, fun t => ?_⟩
    simp only [getD_args, initEnv_get, Nat.zero_add, Nat.zero_le, true_and, Nat.sub_zero]
    split
    · rfl
    · rename_i hlt
      rw [List.getD_eq_getElem?_getD, List.getElem?_eq_none (by omega)]; rfl
/-- What is told out of a cell's struct. -/
def RC (n : Nat) (v : Value) (Φ : Value → World → Prop) (w : World) : Prop := ∃ a cs, v = .pointer (some a) ∧ loadN w a 0 n = some cs ∧ Φ (.agg cs.toArray) w
theorem results_cell {P : Program} {fn : Func} {t : Nat} {ty : TypeId} {d : TypeDesc} {n : Nat} {tmps : Array Value} {a : Addr} {cs : List Value} {w : World} (h : fn.results = #[.cell t ty]) (hu : P.underlying ty = some d) (hd : isAggD d = true) (hn : P.cellsOf ty = n)
    (ht : tmps.getD t undef = .pointer (some a)) (hl : loadN w a 0 n = some cs) : (results fn tmps).run P w = .ok (.agg cs.toArray) w := by
  subst hn
  have h1 := run_loadN (P := P) w a _ 0 #[] cs hl
  simp only [results, h]
  rw [Array.getD_eq_getD_getElem?] at ht
  rw [Array.mapM_eq_mapM_toList]
  simp [ht, asAddr, loadVar, run_isAgg hu, hd, run_sizeOf' (info_of_underlying hu), loadCells, h1]
theorem calls_symC {P : Program} {f : FuncId} {fn : Func} {c : Code} {args : List Value} {w : World} {Φ : Value → World → Prop} {Ψ : List PanicEntry → World → Prop} (n t m : Nat) {ty : TypeId} {d : TypeDesc}
    (hf : P.funcs[f]? = some fn) (hb : fn.body = some c) (hn : fn.ntmps = n) (hr : fn.results = #[.cell t ty]) (hu : P.underlying ty = some d) (hd : isAggD d = true) (hm : P.cellsOf ty = m) (hfit : fits n c = true) (hargs : args.length ≤ n) {s : SCode} (hs : toS P c = s)
    (h : symS n P s ⟨fun e w => RC m (e t) Φ w, fun _ _ _ => False, fun e w => RC m (e t) Φ w, Ψ⟩ (initEnv args 0 env0) w) :
    Calls P f args.toArray w (Out Φ Ψ) := by
  refine calls_of_wp hf hb (Code.wp_mono (fun ex a' w' hq => ?_) (symS_sound c hfit _ _ _ w ?_ (hs ▸ h)))
  · cases ex with
    | normal =>
      obtain ⟨e, h1, x, cs, h2, h3, h4⟩ := hq
      exact ⟨h1.defers, _, results_cell hr hu hd hm (by rw [h1.val]; exact h2) h3, h4⟩
    | ret =>
      obtain ⟨e, h1, x, cs, h2, h3, h4⟩ := hq
      exact ⟨h1.defers, _, results_cell hr hu hd hm (by rw [h1.val]; exact h2) h3, h4⟩
    | exit i => obtain ⟨e, _, h2⟩ := hq; exact h2
    | panic c => exact hq
    | outgrown => exact (hq : False).elim
    | goto l => exact hq
  · refine ⟨by simp [hn]; omega, rfl, fun t => ?_⟩
    simp only [getD_args, initEnv_get, Nat.zero_add, Nat.zero_le, true_and, Nat.sub_zero]
    split
    · rfl
    · rename_i hlt
      rw [List.getD_eq_getElem?_getD, List.getElem?_eq_none (by omega)]; rfl
end Go.Proofs.YtienelpepioggaaGreat

/- The equations by which the plain reading is carried out. 'R' marks what is to be carried out now. -/
namespace Go.Proofs.YtienelpepioggaaGreat
open Go
def R (p : Prop) : Prop := p
theorem R_in {p : Prop} (h : R p) : p := h
theorem R_out {p : Prop} (h : p) : R p := h
def pickF (c x y : Value) : Option Value := match c with | .bool b => some (if b = true then x else y) | _ => none
def ldF (w : World) (v : Value) : Option Value := match v with | .pointer (some a) => w.cell? a | _ => none
def ldnF (w : World) (m : Nat) (v : Value) : Option Value := match v with | .pointer (some a) => (loadN w a 0 m).map (fun u => .agg u.toArray) | _ => none
def stF (w : World) (v u : Value) : Option (Value × World) := match v with | .pointer (some a) => (if isCell u && (w.cell? a).isSome && !w.frozen? a then some (undef, w.setCell a u) else none) | _ => none
def stnF (w : World) (m : Nat) (v u : Value) : Option (Value × World) := match v with | .pointer (some a) => (if u.cells.size = m then (storeN w a 0 u.cells.toList).map (fun w => (undef, w)) else none) | _ => none
def beqF (neg : Bool) (v u : Value) : Option Value := match v, u with | .bool a, .bool b => some (.bool (if neg then !(a == b) else a == b)) | _, _ => none
def eqnF (kind : Nat) (neg : Bool) (v : Value) : Option Value := (nilV kind v).map fun b => .bool (if neg then !b else b)
def unF (op : UnOp) (v : Value) : Option Value := match op, v with | .not, .bool b => some (.bool !b) | .neg, .int k n => some (.int k (k.wrap (0 - n))) | _, _ => none
def faF (off : Nat) (v : Value) : Option Value := match v with | .pointer (some a) => some (.pointer (some (a.add off))) | _ => none
def fldF (off m : Nat) (agg : Bool) (v : Value) : Option Value := match v with | .agg cs => (if agg then some (.agg (cs.extract off (off + m))) else cs[off]?) | _ => none
def iaF (size : Nat) (v u : Value) : Option Value := match v, u with | .slice (some a) len _, .int _ i => (if 0 ≤ i ∧ i < (len : Int) then some (.pointer (some (a.add (i.toNat * size)))) else none) | _, _ => none
def iaaF (len size : Nat) (v u : Value) : Option Value := match v, u with | .pointer (some a), .int _ i => (if 0 ≤ i ∧ i < (len : Int) then some (.pointer (some (a.add (i.toNat * size)))) else none) | _, _ => none
def idxF (len size : Nat) (agg : Bool) (v u : Value) : Option Value := match v, u with | .agg cs, .int _ i => (if 0 ≤ i ∧ i < (len : Int) then (if agg then some (.agg (cs.extract (i.toNat * size) (i.toNat * size + size))) else cs[i.toNat * size]?) else none) | _, _ => none
def sidxF (v u : Value) : Option Value := match v, u with | .string s, .int _ i => (if 0 ≤ i then s[i.toNat]?.map (fun b => .int .u8 b.toNat) else none) | _, _ => none
def extF (i : Nat) (v : Value) : Option Value := match v with | .tuple vs => vs[i]? | _ => none
def boxF (w : World) (t : TypeId) (v : Value) : Option (Value × World) := some (.pointer (some ⟨w.heap.size, 0, none⟩), w.alloc (.cells v.cells t))
def bslF (w : World) (t : TypeId) (len : Nat) (o : Option (Array Value)) : Option (Value × World) := o.map fun cs => (.slice (some ⟨w.heap.size, 0, none⟩) len len, w.alloc (.cells cs t))
def lenF (w : World) (kind : Nat) (v : Value) : Option Value := match kind, v with
  | 0, .slice _ n _ => some (.int .i64 n)
  | 1, .string s => some (.int .i64 s.size)
  | 2, .map none => some (.int .i64 0)
  | 2, .map (some r) => match w.heap[r]? with | some (.map es _) => some (.int .i64 es.size) | _ => none
  | _, _ => none
def slcF (size : Nat) (v : Value) (lo hi mx : Option Value) : Option Value := match v with | .slice a len cap => slcV size a len cap lo hi mx | _ => none
def slcaF (m size : Nat) (v : Value) (lo hi mx : Option Value) : Option Value := match v with | .pointer (some a) => slcV size (some a) m m lo hi mx | _ => none
def convF (kk : IntKind) (v : Value) : Option Value := match v with | .int _ n => some (.int kk (kk.wrap n)) | _ => none
def taF (t : TypeId) (z : Value) (ok : Bool) (v : Value) : Option Value := match v with | .iface t' u => (if t' = t then some (if ok then .tuple #[u, .bool true] else u) else if ok then some (.tuple #[z, .bool false]) else none) | _ => none
def v1 (o : Option Value) (K : Value → World → Prop) (w : World) : Prop := match o with | some v => K v w | none => False
def v2 (o : Option (Value × World)) (K : Value → World → Prop) : Prop := match o with | some (v, w) => K v w | none => False
/-- A value (and a world), and what follows. -/
def val1 (o : Option Value) (P : Program) (d : Option Nat) (l : List GOp) (k : Kont) (e : Env) (w : World) : Prop := match o with | some v => symOps P l k (updO e d v) w | none => False
def val2 (o : Option (Value × World)) (P : Program) (d : Option Nat) (l : List GOp) (k : Kont) (e : Env) : Prop := match o with | some (v, w) => symOps P l k (updO e d v) w | none => False
def callV (P : Program) (f : FuncId) (vs : List Value) (d : Option Nat) (l : List GOp) (k : Kont) (e : Env) (w : World) : Prop := Calls P f vs.toArray w (Out (fun v w' => symOps P l k (updO e d v) w') k.p)
def condS (v : Value) (n : Nat) (P : Program) (x y : SCode) (k : Kont) (e : Env) (w : World) : Prop := match v with | .bool true => symS n P x k e w | .bool false => symS n P y k e w | _ => False
def gOps (v : Value) (want : Bool) (P : Program) (d : Option Nat) (s : SOp) (l : List GOp) (k : Kont) (e : Env) (w : World) : Prop :=
  match v with | .bool b => if b = want then symOps P (⟨d, s, none⟩ :: l) k e w else symOps P l k (updO e d undef) w | _ => symOps P l k (updO e d undef) w
section
variable {n : Nat} {P : Program} {k : Kont} {e : Env} {w : World} {K : Value → World → Prop} {l : List GOp} {d : Option Nat}
theorem val1_some {v : Value} : val1 (some v) P d l k e w = R (symOps P l k (updO e d v) w) := propext ⟨fun h => h, fun h => h⟩
theorem val2_some {v : Value} : val2 (some (v, w)) P d l k e = R (symOps P l k (updO e d v) w) := propext ⟨fun h => h, fun h => h⟩
theorem optK_as {o : Option Value} : optK o (fun v => K v w) = v1 o K w := by cases o <;> rfl
theorem optK_map {α : Type} {o : Option α} {f : α → Value} : optK o (fun v => K (f v) w) = v1 (o.map f) K w := by cases o <;> rfl
theorem optK_map2 {o : Option World} : optK o (fun w' => K undef w') = v2 (o.map (fun w => (undef, w))) K := by cases o <;> rfl
theorem R_skip : R (symS n P .skip k e w) = R (k.n e w) := propext ⟨fun h => h, fun h => h⟩
theorem R_ops : R (symS n P (.ops l) k e w) = R (symOps P l k e w) := propext ⟨fun h => h, fun h => h⟩
theorem R_seq {x y : SCode} : R (symS n P (.seq x y) k e w) = R (symS n P x ⟨symS n P y k, k.x, k.r, k.p⟩ e w) := propext ⟨fun h => h, fun h => h⟩
theorem R_cond {c : Operand} {x y : SCode} : R (symS n P (.cond c x y) k e w) = condS (ev e c) n P x y k e w := propext ⟨fun h => h, fun h => h⟩
theorem R_block {i : Nat} {c : SCode} : R (symS n P (.block i c) k e w) = R (symS n P c ⟨k.n, fun j => if j = i then k.n else k.x j, k.r, k.p⟩ e w) := propext ⟨fun h => h, fun h => h⟩
theorem R_exit {i : Nat} : R (symS n P (.exit i) k e w) = R (k.x i e w) := propext ⟨fun h => h, fun h => h⟩
theorem R_ret : R (symS n P .ret k e w) = R (k.r e w) := propext ⟨fun h => h, fun h => h⟩
theorem R_nil : R (symOps P [] k e w) = R (k.n e w) := propext ⟨fun h => h, fun h => h⟩
theorem R_guard {s : SOp} {t : Nat} {want : Bool} : R (symOps P (⟨d, s, some (t, want)⟩ :: l) k e w) = gOps (e t) want P d s l k e w := by
  show (valK (e t) fun v => match v with | .bool b => if b = want then _ else _ | _ => _) = _
  unfold valK gOps; cases e t <;> rfl
theorem g_true {s : SOp} {b : Bool} : gOps (.bool b) true P d s l k e w = if b = true then R (symOps P (⟨d, s, none⟩ :: l) k e w) else R (symOps P l k (updO e d undef) w) := propext ⟨fun h => h, fun h => h⟩
theorem g_false {s : SOp} {b : Bool} : gOps (.bool b) false P d s l k e w = if b = true then R (symOps P l k (updO e d undef) w) else R (symOps P (⟨d, s, none⟩ :: l) k e w) := by cases b <;> rfl
theorem g_undef {s : SOp} {want : Bool} : gOps undef want P d s l k e w = R (symOps P l k (updO e d undef) w) := propext ⟨fun h => h, fun h => h⟩
theorem condS_b {b : Bool} {x y : SCode} : condS (.bool b) n P x y k e w = if b = true then R (symS n P x k e w) else R (symS n P y k e w) := by cases b <;> rfl
theorem R_call {f : FuncId} {args : List Operand} : R (symOps P (⟨d, .call f args, none⟩ :: l) k e w) = callV P f (args.map (ev e)) d l k e w := propext ⟨fun h => h, fun h => h⟩
theorem R_ite {c : Prop} [Decidable c] {f g : Env → World → Prop} : R ((if c then f else g) e w) = if c then R (f e w) else R (g e w) := by split <;> rfl
theorem updO_some {t : Nat} {v : Value} : updO e (some t) v = upd e t v := Eq.trans (Eq.refl _) (Eq.refl _)
theorem updO_none {v : Value} : updO e none v = e := Eq.trans (Eq.refl _) (Eq.refl _)
theorem ev_tmp {t : Nat} : ev e (.tmp t) = e t := Eq.trans (Eq.refl _) (Eq.refl _)
theorem ev_const {v : Value} : ev e (.const v) = v := Eq.trans (Eq.refl _) (Eq.refl _)
theorem ev_func {f : Nat} : ev e (.func f) = .func (.func f) #[] #[] := Eq.trans (Eq.refl _) (Eq.refl _)
theorem upd_at {d t : Nat} {v : Value} : upd e d v t = if t = d then v else e t := Eq.trans (Eq.refl _) (Eq.refl _)
theorem add_lit (b o m : Nat) : Addr.add ⟨b, o, none⟩ m = ⟨b, o + m, none⟩ := by
  unfold Addr.add; split
  · subst_vars; rfl
  · rfl
theorem O_mv {x : Operand} : symOp P (.mv x) e w K = v1 (some (ev e x)) K w := by
  rfl
theorem R_mv {x : Operand} : R (symOps P (⟨d, .mv x, none⟩ :: l) k e w) = val1 (some (ev e x)) P d l k e w := by
  show symOp P (.mv x) e w (fun v w' => symOps P l k (updO e d v) w') = v1 (some (ev e x)) (fun v w' => symOps P l k (updO e d v) w') w
  exact O_mv
theorem O_pick {c x y : Operand} : symOp P (.pick c x y) e w K = v1 (pickF (ev e c) (ev e x) (ev e y)) K w := by
  simp only [symOp, valK, pickF]; cases ev e c <;> first | rfl | (rename_i b; cases b <;> rfl)
theorem R_pick {c x y : Operand} : R (symOps P (⟨d, .pick c x y, none⟩ :: l) k e w) = val1 (pickF (ev e c) (ev e x) (ev e y)) P d l k e w := by
  show symOp P (.pick c x y) e w (fun v w' => symOps P l k (updO e d v) w') = v1 (pickF (ev e c) (ev e x) (ev e y)) (fun v w' => symOps P l k (updO e d v) w') w
  exact O_pick
theorem O_ld {x : Operand} : symOp P (.ld x) e w K = v1 (ldF w (ev e x)) K w := by
  simp only [symOp, valK, ldF]; cases ev e x <;> first | rfl | (rename_i a; cases a <;> first | rfl | exact optK_as) | exact optK_as
theorem R_ld {x : Operand} : R (symOps P (⟨d, .ld x, none⟩ :: l) k e w) = val1 (ldF w (ev e x)) P d l k e w := by
  show symOp P (.ld x) e w (fun v w' => symOps P l k (updO e d v) w') = v1 (ldF w (ev e x)) (fun v w' => symOps P l k (updO e d v) w') w
  exact O_ld
theorem O_ldn {m : Nat} {x : Operand} : symOp P (.ldn m x) e w K = v1 (ldnF w m (ev e x)) K w := by
  simp only [symOp, valK, ldnF]; cases ev e x <;> first | rfl | (rename_i a; cases a <;> first | rfl | exact optK_map)
theorem R_ldn {m : Nat} {x : Operand} : R (symOps P (⟨d, .ldn m x, none⟩ :: l) k e w) = val1 (ldnF w m (ev e x)) P d l k e w := by
  show symOp P (.ldn m x) e w (fun v w' => symOps P l k (updO e d v) w') = v1 (ldnF w m (ev e x)) (fun v w' => symOps P l k (updO e d v) w') w
  exact O_ldn
theorem O_st {x y : Operand} : symOp P (.st x y) e w K = v2 (stF w (ev e x) (ev e y)) K := by
  simp only [symOp, valK, stF]; cases ev e x <;> first | rfl | (rename_i a; cases a <;> first | rfl | (dsimp only; split <;> rfl))
theorem R_st {x y : Operand} : R (symOps P (⟨d, .st x y, none⟩ :: l) k e w) = val2 (stF w (ev e x) (ev e y)) P d l k e := by
  show symOp P (.st x y) e w (fun v w' => symOps P l k (updO e d v) w') = v2 (stF w (ev e x) (ev e y)) (fun v w' => symOps P l k (updO e d v) w')
  exact O_st
theorem O_stn {m : Nat} {x y : Operand} : symOp P (.stn m x y) e w K = v2 (stnF w m (ev e x) (ev e y)) K := by
  simp only [symOp, valK, stnF]; cases ev e x <;> first | rfl | (rename_i a; cases a <;> first | rfl | (dsimp only; split <;> first | rfl | exact optK_map2))
theorem R_stn {m : Nat} {x y : Operand} : R (symOps P (⟨d, .stn m x y, none⟩ :: l) k e w) = val2 (stnF w m (ev e x) (ev e y)) P d l k e := by
  show symOp P (.stn m x y) e w (fun v w' => symOps P l k (updO e d v) w') = v2 (stnF w m (ev e x) (ev e y)) (fun v w' => symOps P l k (updO e d v) w')
  exact O_stn
theorem O_nilc {x : Operand} : symOp P (.nilc x) e w K = v1 (nilF P (ev e x)) K w := by
  exact optK_as
theorem R_nilc {x : Operand} : R (symOps P (⟨d, .nilc x, none⟩ :: l) k e w) = val1 (nilF P (ev e x)) P d l k e w := by
  show symOp P (.nilc x) e w (fun v w' => symOps P l k (updO e d v) w') = v1 (nilF P (ev e x)) (fun v w' => symOps P l k (updO e d v) w') w
  exact O_nilc
theorem O_bin {op : BinOp} {x y : Operand} : symOp P (.bin op x y) e w K = v1 (binV op (ev e x) (ev e y)) K w := by
  exact optK_as
theorem R_bin {op : BinOp} {x y : Operand} : R (symOps P (⟨d, .bin op x y, none⟩ :: l) k e w) = val1 (binV op (ev e x) (ev e y)) P d l k e w := by
  show symOp P (.bin op x y) e w (fun v w' => symOps P l k (updO e d v) w') = v1 (binV op (ev e x) (ev e y)) (fun v w' => symOps P l k (updO e d v) w') w
  exact O_bin
theorem O_beq {neg : Bool} {x y : Operand} : symOp P (.beq neg x y) e w K = v1 (beqF neg (ev e x) (ev e y)) K w := by
  simp only [symOp, valK, beqF]; cases ev e x <;> cases ev e y <;> rfl
theorem R_beq {neg : Bool} {x y : Operand} : R (symOps P (⟨d, .beq neg x y, none⟩ :: l) k e w) = val1 (beqF neg (ev e x) (ev e y)) P d l k e w := by
  show symOp P (.beq neg x y) e w (fun v w' => symOps P l k (updO e d v) w') = v1 (beqF neg (ev e x) (ev e y)) (fun v w' => symOps P l k (updO e d v) w') w
  exact O_beq
theorem O_eqn {kind : Nat} {neg : Bool} {x : Operand} : symOp P (.eqn kind neg x) e w K = v1 (eqnF kind neg (ev e x)) K w := by
  simp only [symOp, valK, eqnF]; cases nilV kind (ev e x) <;> rfl
theorem R_eqn {kind : Nat} {neg : Bool} {x : Operand} : R (symOps P (⟨d, .eqn kind neg x, none⟩ :: l) k e w) = val1 (eqnF kind neg (ev e x)) P d l k e w := by
  show symOp P (.eqn kind neg x) e w (fun v w' => symOps P l k (updO e d v) w') = v1 (eqnF kind neg (ev e x)) (fun v w' => symOps P l k (updO e d v) w') w
  exact O_eqn
theorem O_un {op : UnOp} {x : Operand} : symOp P (.un op x) e w K = v1 (unF op (ev e x)) K w := by
  simp only [symOp, valK, unF]; cases op <;> cases ev e x <;> rfl
theorem R_un {op : UnOp} {x : Operand} : R (symOps P (⟨d, .un op x, none⟩ :: l) k e w) = val1 (unF op (ev e x)) P d l k e w := by
  show symOp P (.un op x) e w (fun v w' => symOps P l k (updO e d v) w') = v1 (unF op (ev e x)) (fun v w' => symOps P l k (updO e d v) w') w
  exact O_un
theorem O_fa {off : Nat} {x : Operand} : symOp P (.fa off x) e w K = v1 (faF off (ev e x)) K w := by
  simp only [symOp, valK, faF]; cases ev e x <;> first | rfl | (rename_i a; cases a <;> first | rfl | exact optK_as) | exact optK_as
theorem R_fa {off : Nat} {x : Operand} : R (symOps P (⟨d, .fa off x, none⟩ :: l) k e w) = val1 (faF off (ev e x)) P d l k e w := by
  show symOp P (.fa off x) e w (fun v w' => symOps P l k (updO e d v) w') = v1 (faF off (ev e x)) (fun v w' => symOps P l k (updO e d v) w') w
  exact O_fa
theorem O_fld {off m : Nat} {agg : Bool} {x : Operand} : symOp P (.fld off m agg x) e w K = v1 (fldF off m agg (ev e x)) K w := by
  simp only [symOp, valK, fldF]; cases ev e x <;> first | rfl | (cases agg <;> first | rfl | exact optK_as)
theorem R_fld {off m : Nat} {agg : Bool} {x : Operand} : R (symOps P (⟨d, .fld off m agg x, none⟩ :: l) k e w) = val1 (fldF off m agg (ev e x)) P d l k e w := by
  show symOp P (.fld off m agg x) e w (fun v w' => symOps P l k (updO e d v) w') = v1 (fldF off m agg (ev e x)) (fun v w' => symOps P l k (updO e d v) w') w
  exact O_fld
theorem O_ia {size : Nat} {x i : Operand} : symOp P (.ia size x i) e w K = v1 (iaF size (ev e x) (ev e i)) K w := by
  simp only [symOp, valK, iaF]; cases ev e x <;> first | rfl | (rename_i a; cases a <;> cases ev e i <;> first | rfl | (dsimp only; split <;> rfl)) | (rename_i a _ _; cases a <;> cases ev e i <;> first | rfl | (dsimp only; split <;> rfl))
theorem R_ia {size : Nat} {x i : Operand} : R (symOps P (⟨d, .ia size x i, none⟩ :: l) k e w) = val1 (iaF size (ev e x) (ev e i)) P d l k e w := by
  show symOp P (.ia size x i) e w (fun v w' => symOps P l k (updO e d v) w') = v1 (iaF size (ev e x) (ev e i)) (fun v w' => symOps P l k (updO e d v) w') w
  exact O_ia
theorem O_iaa {len size : Nat} {x i : Operand} : symOp P (.iaa len size x i) e w K = v1 (iaaF len size (ev e x) (ev e i)) K w := by
  simp only [symOp, valK, iaaF]; cases ev e x <;> first | rfl | (rename_i a; cases a <;> cases ev e i <;> first | rfl | (dsimp only; split <;> rfl)) | (rename_i a _ _; cases a <;> cases ev e i <;> first | rfl | (dsimp only; split <;> rfl))
theorem R_iaa {len size : Nat} {x i : Operand} : R (symOps P (⟨d, .iaa len size x i, none⟩ :: l) k e w) = val1 (iaaF len size (ev e x) (ev e i)) P d l k e w := by
  show symOp P (.iaa len size x i) e w (fun v w' => symOps P l k (updO e d v) w') = v1 (iaaF len size (ev e x) (ev e i)) (fun v w' => symOps P l k (updO e d v) w') w
  exact O_iaa
theorem O_idx {len size : Nat} {agg : Bool} {x i : Operand} : symOp P (.idx len size agg x i) e w K = v1 (idxF len size agg (ev e x) (ev e i)) K w := by
  simp only [symOp, valK, idxF]; cases ev e x <;> cases ev e i <;> first | rfl | (dsimp only; split <;> first | rfl | (cases agg <;> first | rfl | exact optK_as))
theorem R_idx {len size : Nat} {agg : Bool} {x i : Operand} : R (symOps P (⟨d, .idx len size agg x i, none⟩ :: l) k e w) = val1 (idxF len size agg (ev e x) (ev e i)) P d l k e w := by
  show symOp P (.idx len size agg x i) e w (fun v w' => symOps P l k (updO e d v) w') = v1 (idxF len size agg (ev e x) (ev e i)) (fun v w' => symOps P l k (updO e d v) w') w
  exact O_idx
theorem O_sidx {x i : Operand} : symOp P (.sidx x i) e w K = v1 (sidxF (ev e x) (ev e i)) K w := by
  simp only [symOp, valK, sidxF]; cases ev e x <;> cases ev e i <;> first | rfl | (dsimp only; split <;> first | rfl | exact optK_map)
theorem R_sidx {x i : Operand} : R (symOps P (⟨d, .sidx x i, none⟩ :: l) k e w) = val1 (sidxF (ev e x) (ev e i)) P d l k e w := by
  show symOp P (.sidx x i) e w (fun v w' => symOps P l k (updO e d v) w') = v1 (sidxF (ev e x) (ev e i)) (fun v w' => symOps P l k (updO e d v) w') w
  exact O_sidx
theorem O_ext {x : Operand} {i : Nat} : symOp P (.ext x i) e w K = v1 (extF i (ev e x)) K w := by
  simp only [symOp, valK, extF]; cases ev e x <;> first | rfl | (rename_i a; cases a <;> first | rfl | exact optK_as) | exact optK_as
theorem R_ext {x : Operand} {i : Nat} : R (symOps P (⟨d, .ext x i, none⟩ :: l) k e w) = val1 (extF i (ev e x)) P d l k e w := by
  show symOp P (.ext x i) e w (fun v w' => symOps P l k (updO e d v) w') = v1 (extF i (ev e x)) (fun v w' => symOps P l k (updO e d v) w') w
  exact O_ext
theorem O_box {t : TypeId} {x : Operand} : symOp P (.box t x) e w K = v2 (boxF w t (ev e x)) K := by
  rfl
theorem R_box {t : TypeId} {x : Operand} : R (symOps P (⟨d, .box t x, none⟩ :: l) k e w) = val2 (boxF w t (ev e x)) P d l k e := by
  show symOp P (.box t x) e w (fun v w' => symOps P l k (updO e d v) w') = v2 (boxF w t (ev e x)) (fun v w' => symOps P l k (updO e d v) w')
  exact O_box
theorem O_alloc {t : TypeId} {z : Value} : symOp P (.alloc t z) e w K = v2 (boxF w t z) K := by
  rfl
theorem R_alloc {t : TypeId} {z : Value} : R (symOps P (⟨d, .alloc t z, none⟩ :: l) k e w) = val2 (boxF w t z) P d l k e := by
  show symOp P (.alloc t z) e w (fun v w' => symOps P l k (updO e d v) w') = v2 (boxF w t z) (fun v w' => symOps P l k (updO e d v) w')
  exact O_alloc
theorem O_bld {z : Array Value} {parts : List (Nat × Nat × Operand)} : symOp P (.bld z parts) e w K = v1 ((fillV e z parts).map .agg) K w := by
  cases h : fillV e z parts <;> simp [symOp, v1, h, optK]
theorem R_bld {z : Array Value} {parts : List (Nat × Nat × Operand)} : R (symOps P (⟨d, .bld z parts, none⟩ :: l) k e w) = val1 ((fillV e z parts).map .agg) P d l k e w := by
  show symOp P (.bld z parts) e w (fun v w' => symOps P l k (updO e d v) w') = v1 ((fillV e z parts).map .agg) (fun v w' => symOps P l k (updO e d v) w') w
  exact O_bld
theorem O_bsl {t : TypeId} {z : Array Value} {len : Nat} {parts : List (Nat × Nat × Operand)} : symOp P (.bsl t z len parts) e w K = v2 (bslF w t len (fillV e z parts)) K := by
  cases h : fillV e z parts <;> simp [symOp, v2, h, optK, bslF]
theorem R_bsl {t : TypeId} {z : Array Value} {len : Nat} {parts : List (Nat × Nat × Operand)} : R (symOps P (⟨d, .bsl t z len parts, none⟩ :: l) k e w) = val2 (bslF w t len (fillV e z parts)) P d l k e := by
  show symOp P (.bsl t z len parts) e w (fun v w' => symOps P l k (updO e d v) w') = v2 (bslF w t len (fillV e z parts)) (fun v w' => symOps P l k (updO e d v) w')
  exact O_bsl
theorem O_mkmap  : symOp P (.mkmap) e w K = v2 (some (.map (some w.heap.size), w.alloc (.map #[] 0))) K := by
  rfl
theorem R_mkmap  : R (symOps P (⟨d, .mkmap, none⟩ :: l) k e w) = val2 (some (.map (some w.heap.size), w.alloc (.map #[] 0))) P d l k e := by
  show symOp P (.mkmap) e w (fun v w' => symOps P l k (updO e d v) w') = v2 (some (.map (some w.heap.size), w.alloc (.map #[] 0))) (fun v w' => symOps P l k (updO e d v) w')
  exact O_mkmap
theorem O_mkif {t : TypeId} {x : Operand} : symOp P (.mkif t x) e w K = v1 (some (.iface t (ev e x))) K w := by
  rfl
theorem R_mkif {t : TypeId} {x : Operand} : R (symOps P (⟨d, .mkif t x, none⟩ :: l) k e w) = val1 (some (.iface t (ev e x))) P d l k e w := by
  show symOp P (.mkif t x) e w (fun v w' => symOps P l k (updO e d v) w') = v1 (some (.iface t (ev e x))) (fun v w' => symOps P l k (updO e d v) w') w
  exact O_mkif
theorem O_mkfn {fn : Fn} {first captured : List Operand} : symOp P (.mkfn fn first captured) e w K = v1 (some (.func fn (first.map (ev e)).toArray (captured.map (ev e)).toArray)) K w := by
  rfl
theorem R_mkfn {fn : Fn} {first captured : List Operand} : R (symOps P (⟨d, .mkfn fn first captured, none⟩ :: l) k e w) = val1 (some (.func fn (first.map (ev e)).toArray (captured.map (ev e)).toArray)) P d l k e w := by
  show symOp P (.mkfn fn first captured) e w (fun v w' => symOps P l k (updO e d v) w') = v1 (some (.func fn (first.map (ev e)).toArray (captured.map (ev e)).toArray)) (fun v w' => symOps P l k (updO e d v) w') w
  exact O_mkfn
theorem O_len {kind : Nat} {x : Operand} : symOp P (.len kind x) e w K = v1 (lenF w kind (ev e x)) K w := by
  simp only [symOp, valK, lenF]; rcases kind with _ | _ | _ | kind <;> cases ev e x <;> first | rfl | (rename_i r; cases r <;> first | rfl | (rename_i r; cases h : w.heap[r]? <;> first | (simp [h, v1]; done) | (rename_i o; cases o <;> simp [h, v1])))
theorem R_len {kind : Nat} {x : Operand} : R (symOps P (⟨d, .len kind x, none⟩ :: l) k e w) = val1 (lenF w kind (ev e x)) P d l k e w := by
  show symOp P (.len kind x) e w (fun v w' => symOps P l k (updO e d v) w') = v1 (lenF w kind (ev e x)) (fun v w' => symOps P l k (updO e d v) w') w
  exact O_len
theorem O_slc {size : Nat} {x : Operand} {lo hi mx : Option Operand} : symOp P (.slc size x lo hi mx) e w K = v1 (slcF size (ev e x) (lo.map (ev e)) (hi.map (ev e)) (mx.map (ev e))) K w := by
  simp only [symOp, valK, slcF]; cases ev e x <;> first | rfl | exact optK_as
theorem R_slc {size : Nat} {x : Operand} {lo hi mx : Option Operand} : R (symOps P (⟨d, .slc size x lo hi mx, none⟩ :: l) k e w) = val1 (slcF size (ev e x) (lo.map (ev e)) (hi.map (ev e)) (mx.map (ev e))) P d l k e w := by
  show symOp P (.slc size x lo hi mx) e w (fun v w' => symOps P l k (updO e d v) w') = v1 (slcF size (ev e x) (lo.map (ev e)) (hi.map (ev e)) (mx.map (ev e))) (fun v w' => symOps P l k (updO e d v) w') w
  exact O_slc
theorem O_slca {m size : Nat} {x : Operand} {lo hi mx : Option Operand} : symOp P (.slca m size x lo hi mx) e w K = v1 (slcaF m size (ev e x) (lo.map (ev e)) (hi.map (ev e)) (mx.map (ev e))) K w := by
  simp only [symOp, valK, slcaF]; cases ev e x <;> first | rfl | (rename_i a; cases a <;> first | rfl | exact optK_as)
theorem R_slca {m size : Nat} {x : Operand} {lo hi mx : Option Operand} : R (symOps P (⟨d, .slca m size x lo hi mx, none⟩ :: l) k e w) = val1 (slcaF m size (ev e x) (lo.map (ev e)) (hi.map (ev e)) (mx.map (ev e))) P d l k e w := by
  show symOp P (.slca m size x lo hi mx) e w (fun v w' => symOps P l k (updO e d v) w') = v1 (slcaF m size (ev e x) (lo.map (ev e)) (hi.map (ev e)) (mx.map (ev e))) (fun v w' => symOps P l k (updO e d v) w') w
  exact O_slca
theorem O_lkp {ik : IntKind} {z : Value} {x i : Operand} {ok : Bool} : symOp P (.lkp ik z x i ok) e w K = v1 (lkpV w z ok (ev e x) (ev e i)) K w := by
  exact optK_as
theorem R_lkp {ik : IntKind} {z : Value} {x i : Operand} {ok : Bool} : R (symOps P (⟨d, .lkp ik z x i ok, none⟩ :: l) k e w) = val1 (lkpV w z ok (ev e x) (ev e i)) P d l k e w := by
  show symOp P (.lkp ik z x i ok) e w (fun v w' => symOps P l k (updO e d v) w') = v1 (lkpV w z ok (ev e x) (ev e i)) (fun v w' => symOps P l k (updO e d v) w') w
  exact O_lkp (ik := ik)
theorem O_conv {kk : IntKind} {x : Operand} : symOp P (.conv kk x) e w K = v1 (convF kk (ev e x)) K w := by
  simp only [symOp, valK, convF]; cases ev e x <;> rfl
theorem R_conv {kk : IntKind} {x : Operand} : R (symOps P (⟨d, .conv kk x, none⟩ :: l) k e w) = val1 (convF kk (ev e x)) P d l k e w := by
  show symOp P (.conv kk x) e w (fun v w' => symOps P l k (updO e d v) w') = v1 (convF kk (ev e x)) (fun v w' => symOps P l k (updO e d v) w') w
  exact O_conv
theorem O_ta {t : TypeId} {z : Value} {x : Operand} {ok : Bool} : symOp P (.ta t z x ok) e w K = v1 (taF t z ok (ev e x)) K w := by
  simp only [symOp, valK, taF]; cases ev e x <;> first | rfl | (dsimp only; split <;> first | rfl | (cases ok <;> rfl))
theorem R_ta {t : TypeId} {z : Value} {x : Operand} {ok : Bool} : R (symOps P (⟨d, .ta t z x ok, none⟩ :: l) k e w) = val1 (taF t z ok (ev e x)) P d l k e w := by
  show symOp P (.ta t z x ok) e w (fun v w' => symOps P l k (updO e d v) w') = v1 (taF t z ok (ev e x)) (fun v w' => symOps P l k (updO e d v) w') w
  exact O_ta
end
section
variable {k : IntKind} {a b : Int} {w : World} {ad : Addr}
theorem pickF_b {c : Bool} {x y : Value} : pickF (.bool c) x y = some (if c = true then x else y) := Eq.trans (Eq.refl _) (Eq.refl _)
theorem ldF_p : ldF w (.pointer (some ad)) = w.cell? ad := Eq.trans (Eq.refl _) (Eq.refl _)
theorem ldnF_p {m : Nat} : ldnF w m (.pointer (some ad)) = (loadN w ad 0 m).map (fun u => .agg u.toArray) := Eq.trans (Eq.refl _) (Eq.refl _)
theorem stF_p {u v : Value} (h1 : isCell u = true) (h2 : w.cell? ad = some v) (h3 : w.frozen? ad = false) : stF w (.pointer (some ad)) u = some (undef, w.setCell ad u) := by simp [stF, h1, h2, h3]
theorem nilF_p {P : Program} : nilF P (.pointer (some ad)) = some (.pointer (some ad)) := Eq.trans (Eq.refl _) (Eq.refl _)
theorem nilF_f {P : Program} {f : Nat} {c d : Array Value} : nilF P (.func (.func f) c d) = some (.func (.func f) c d) := Eq.trans (Eq.refl _) (Eq.refl _)
theorem nilF_m {P : Program} {t : TypeId} {u : Value} {name : String} {c : Array Value} (h : nilMOK P t u name) : nilF P (.func (.method name) #[.iface t u] c) = some (.func (.method name) #[.iface t u] c) := by simp [nilF, h]
theorem beqF_f {a b : Bool} : beqF false (.bool a) (.bool b) = some (.bool (a == b)) := Eq.trans (Eq.refl _) (Eq.refl _)
theorem beqF_t {a b : Bool} : beqF true (.bool a) (.bool b) = some (.bool (!(a == b))) := Eq.trans (Eq.refl _) (Eq.refl _)
theorem eqnF_p {neg : Bool} {a : Option Addr} : eqnF 0 neg (.pointer a) = some (.bool (if neg = true then !a.isNone else a.isNone)) := Eq.trans (Eq.refl _) (Eq.refl _)
theorem eqnF_s {neg : Bool} {a : Option Addr} {l c : Nat} : eqnF 1 neg (.slice a l c) = some (.bool (if neg = true then !a.isNone else a.isNone)) := Eq.trans (Eq.refl _) (Eq.refl _)
theorem eqnF_m {neg : Bool} {r : Option Nat} : eqnF 2 neg (.map r) = some (.bool (if neg = true then !r.isNone else r.isNone)) := Eq.trans (Eq.refl _) (Eq.refl _)
theorem unF_not {b : Bool} : unF .not (.bool b) = some (.bool !b) := Eq.trans (Eq.refl _) (Eq.refl _)
theorem unF_neg : unF .neg (.int k a) = some (.int k (k.wrap (0 - a))) := Eq.trans (Eq.refl _) (Eq.refl _)
theorem faF_p {off : Nat} : faF off (.pointer (some ad)) = some (.pointer (some (ad.add off))) := Eq.trans (Eq.refl _) (Eq.refl _)
theorem fldF_f {off m : Nat} {cs : Array Value} : fldF off m false (.agg cs) = cs[off]? := Eq.trans (Eq.refl _) (Eq.refl _)
theorem fldF_t {off m : Nat} {cs : Array Value} : fldF off m true (.agg cs) = some (.agg (cs.extract off (off + m))) := Eq.trans (Eq.refl _) (Eq.refl _)
theorem iaF_s {size len cap : Nat} (h : 0 ≤ a ∧ a < (len : Int)) : iaF size (.slice (some ad) len cap) (.int k a) = some (.pointer (some (ad.add (a.toNat * size)))) := by simp only [iaF]; rw [if_pos h]
theorem iaaF_s {len size : Nat} (h : 0 ≤ a ∧ a < (len : Int)) : iaaF len size (.pointer (some ad)) (.int k a) = some (.pointer (some (ad.add (a.toNat * size)))) := by simp only [iaaF]; rw [if_pos h]
theorem extF_t {i : Nat} {vs : Array Value} : extF i (.tuple vs) = vs[i]? := Eq.trans (Eq.refl _) (Eq.refl _)
theorem boxF_eq {t : TypeId} {v : Value} : boxF w t v = some (.pointer (some ⟨w.heap.size, 0, none⟩), w.alloc (.cells v.cells t)) := Eq.trans (Eq.refl _) (Eq.refl _)
theorem bslF_some {t : TypeId} {len : Nat} {cs : Array Value} : bslF w t len (some cs) = some (.slice (some ⟨w.heap.size, 0, none⟩) len len, w.alloc (.cells cs t)) := Eq.trans (Eq.refl _) (Eq.refl _)
theorem lenF_s {a : Option Addr} {n c : Nat} : lenF w 0 (.slice a n c) = some (.int .i64 n) := Eq.trans (Eq.refl _) (Eq.refl _)
theorem lenF_str {s : ByteArray} : lenF w 1 (.string s) = some (.int .i64 s.size) := Eq.trans (Eq.refl _) (Eq.refl _)
theorem lenF_n : lenF w 2 (.map none) = some (.int .i64 0) := Eq.trans (Eq.refl _) (Eq.refl _)
theorem lenF_m {r : Nat} {es : Array MapEntry} {c : Nat} (h : w.heap[r]? = some (.map es c)) : lenF w 2 (.map (some r)) = some (.int .i64 es.size) := by simp [lenF, h]
theorem slcF_s {size len cap : Nat} {a : Option Addr} {lo hi mx : Option Value} : slcF size (.slice a len cap) lo hi mx = slcV size a len cap lo hi mx := Eq.trans (Eq.refl _) (Eq.refl _)
theorem slcaF_p {m size : Nat} {lo hi mx : Option Value} : slcaF m size (.pointer (some ad)) lo hi mx = slcV size (some ad) m m lo hi mx := Eq.trans (Eq.refl _) (Eq.refl _)
theorem convF_i {kk : IntKind} : convF kk (.int k a) = some (.int kk (kk.wrap a)) := Eq.trans (Eq.refl _) (Eq.refl _)
theorem taF_i {t t' : TypeId} {z u : Value} {ok : Bool} : taF t z ok (.iface t' u) = (if t' = t then some (if ok = true then .tuple #[u, .bool true] else u) else if ok = true then some (.tuple #[z, .bool false]) else none) := Eq.trans (Eq.refl _) (Eq.refl _)
theorem bin_add : binV .add (.int k a) (.int k b) = some (.int k (k.wrap (a + b))) := by simp [binV]
theorem bin_sub : binV .sub (.int k a) (.int k b) = some (.int k (k.wrap (a - b))) := by simp [binV]
theorem bin_mul : binV .mul (.int k a) (.int k b) = some (.int k (k.wrap (a * b))) := by simp [binV]
theorem bin_eql : binV .eql (.int k a) (.int k b) = some (.bool (decide (a = b))) := by simp [binV]
theorem bin_neq : binV .neq (.int k a) (.int k b) = some (.bool (!decide (a = b))) := by simp [binV]
theorem bin_lss : binV .lss (.int k a) (.int k b) = some (.bool (decide (a < b))) := by simp [binV]
theorem bin_leq : binV .leq (.int k a) (.int k b) = some (.bool (decide (a ≤ b))) := by simp [binV]
theorem bin_gtr : binV .gtr (.int k a) (.int k b) = some (.bool (decide (b < a))) := by simp [binV]
theorem bin_geq : binV .geq (.int k a) (.int k b) = some (.bool (decide (b ≤ a))) := by simp [binV]
theorem bin_quo (h : b ≠ 0) : binV .quo (.int k a) (.int k b) = some (.int k (k.wrap (a.tdiv b))) := by simp [binV, h]
theorem bin_rem (h : b ≠ 0) : binV .rem (.int k a) (.int k b) = some (.int k (a.tmod b)) := by simp [binV, h]
theorem wrap_i64 {x : Int} (h : -9223372036854775808 ≤ x ∧ x < 9223372036854775808) : IntKind.i64.wrap x = x := by
  unfold IntKind.wrap IntKind.bits IntKind.signed
  simp only
  split
  · rename_i h'; simp at h'; omega
  · rename_i h'; simp at h'; omega
theorem wrap_u8 (x : Int) : IntKind.u8.wrap x = x % 256 := by simp [IntKind.wrap, IntKind.bits, IntKind.signed]
end
end Go.Proofs.YtienelpepioggaaGreat

/- What the walks say of memory: what stays ('Keep', 'Grow'), what a slice reads as ('Has'), what a call owns; and the rules at the operations that the plain reading leaves. -/
namespace Go.Proofs.YtienelpepioggaaGreat
open Go

/-- Nothing but the blocks of S has changed; streams and tape are as they were. -/
structure Keep (S : Nat → Prop) (w w' : World) : Prop where
  os : w'.os = w.os
  tape : w'.tape = w.tape
  output : w'.output = w.output
  size : w.heap.size ≤ w'.heap.size
  blk : ∀ b, b < w.heap.size → ¬ S b → w'.heap[b]? = w.heap[b]?
abbrev Grow := Keep (fun _ => False)

section
variable {S S' : Nat → Prop} {w w' w'' : World}
theorem Keep.refl (S : Nat → Prop) (w : World) : Keep S w w := ⟨rfl, rfl, rfl, Nat.le_refl _, fun _ _ _ => rfl⟩
theorem Keep.trans (h : Keep S w w') (h' : Keep S w' w'') : Keep S w w'' :=
  ⟨h'.os.trans h.os, h'.tape.trans h.tape, h'.output.trans h.output, Nat.le_trans h.size h'.size, fun b hb hs => (h'.blk b (Nat.lt_of_lt_of_le hb h.size) hs).trans (h.blk b hb hs)⟩
/-- What is new, or may be touched, may be touched again. -/
theorem Keep.then (h : Keep S w w') (h' : Keep S' w' w'') (hs : ∀ b, b < w.heap.size → S' b → S b) : Keep S w w'' :=
  ⟨h'.os.trans h.os, h'.tape.trans h.tape, h'.output.trans h.output, Nat.le_trans h.size h'.size,
    fun b hb hn => (h'.blk b (Nat.lt_of_lt_of_le hb h.size) (fun h => hn (hs b hb h))).trans (h.blk b hb hn)⟩
theorem Keep.mono (h : Keep S w w') (hs : ∀ b, b < w.heap.size → S b → S' b) : Keep S' w w' :=
  ⟨h.os, h.tape, h.output, h.size, fun b hb hn => h.blk b hb (fun h => hn (hs b hb h))⟩
theorem Keep.grow (h : Grow w w') : Keep S w w' := h.mono (fun _ _ h => h.elim)
theorem Keep.drew (h : Keep S w w') : Keep S w w'.drew := ⟨h.os, h.tape, h.output, h.size, h.blk⟩
theorem Keep.alloc (h : Keep S w w') (o : Obj) : Keep S w (w'.alloc o) :=
  h.trans ⟨rfl, rfl, rfl, by simp, fun b hb _ => heap_alloc_old w' o b hb⟩
theorem Keep.setCell (h : Keep S w w') {a : Addr} (u : Value) (ha : a.block < w.heap.size → S a.block) : Keep S w (w'.setCell a u) :=
  h.then (S' := fun b => b = a.block) ⟨rfl, rfl, rfl, by simp [World.setCell], fun b _ hn => Go.RowKit.Below.heap_setCell _ _ _ _ hn⟩ (fun b hb h => h ▸ ha (h ▸ hb))
theorem Keep.cell (h : Keep S w w') {a : Addr} {v : Value} (hc : w.cell? a = some v) (hs : ¬ S a.block) : w'.cell? a = some v :=
  (World.cell?_of_block (h.blk a.block (World.block_lt_of_cell? w a hc) hs)).trans hc
theorem Keep.heap (h : Keep S w w') {b : Nat} {o : Obj} (hc : w.heap[b]? = some o) (hs : ¬ S b) : w'.heap[b]? = some o :=
  (h.blk b (Array.getElem?_eq_some_iff.1 hc).1 hs).trans hc
theorem Keep.gcell (h : Grow w w') {a : Addr} {v : Value} (hc : w.cell? a = some v) : w'.cell? a = some v := h.cell hc id
theorem Keep.gheap (h : Grow w w') {b : Nat} {o : Obj} (hc : w.heap[b]? = some o) : w'.heap[b]? = some o := h.heap hc id
theorem Keep.grown {row : Option Nat} (h : w.grownBy w' row) : Keep (fun b => some b = row) w w' := ⟨h.os, h.tape, h.output, h.size, fun b hb hn => h.block b hb hn⟩
theorem Keep.below (h : Grow w w') : Go.RowKit.Below w.heap.size w w' := ⟨h.os, h.tape, h.output, h.size, fun b hb => h.blk b hb id⟩
/-- A call that has changed only what it made itself. -/
theorem Keep.own (h : Keep (fun b => w.heap.size ≤ b) w w') : Grow w w' := h.mono (fun b hb h => by omega)
end

/-- The cells of a block. -/
theorem cell_block {w : World} {b : Nat} {c : Array Value} {t : TypeId} {f : Nat × Nat} (h : w.heap[b]? = some (.cells c t f)) (i : Nat) : w.cell? ⟨b, i, none⟩ = c[i]? := by simp [World.cell?, h]
theorem frozen_block {w : World} {b : Nat} {c : Array Value} {t : TypeId} (h : w.heap[b]? = some (.cells c t (0, 0))) (i : Nat) : w.frozen? ⟨b, i, none⟩ = false := by simp [World.frozen?, h]

/-- The value v is a slice of elements of k cells each; these cells hold xs. -/
def Has (k : Nat) (w : World) (v : Value) (xs : List Value) : Prop :=
  (∃ b o n c, v = .slice (some ⟨b, o, none⟩) n c ∧ xs.length = n * k ∧ n ≤ c ∧ ∀ j u, xs[j]? = some u → w.cell? ⟨b, o + j, none⟩ = some u) ∨ (xs = [] ∧ v = .slice none 0 0)

section
variable {k : Nat} {w w' : World} {v : Value} {xs : List Value}
theorem Has.nil (k : Nat) (w : World) : Has k w (.slice none 0 0) [] := .inr ⟨rfl, rfl⟩
theorem Has.keep {S : Nat → Prop} (h : Has k w v xs) (hk : Keep S w w') (hs : ∀ b, v.ownBlock = some b → xs ≠ [] → ¬ S b) : Has k w' v xs := by
  rcases h with ⟨b, o, n, c, rfl, h1, h2, h3⟩ | h
  · refine .inl ⟨b, o, n, c, rfl, h1, h2, fun j u hj => hk.cell (h3 j u hj) (hs b rfl ?_)⟩
    intro he; subst he; simp at hj
  · exact .inr h
theorem Has.grow (h : Has k w v xs) (hk : Grow w w') : Has k w' v xs := h.keep hk (fun _ _ _ => id)
theorem Has.drew (h : Has k w v xs) : Has k w.drew v xs := h
theorem Has.isCell (h : Has k w v xs) : isCell v = true := by rcases h with ⟨b, o, n, c, rfl, _⟩ | ⟨_, rfl⟩ <;> rfl
theorem Has.len (h : Has 1 w v xs) (w2 : World) : lenF w2 0 v = some (.int .i64 xs.length) := by
  rcases h with ⟨b, o, n, c, rfl, h1, _⟩ | ⟨rfl, rfl⟩
  · simp [lenF]; omega
  · rfl
theorem Has.lenk (h : Has k w v xs) (hk : 0 < k) (w2 : World) : lenF w2 0 v = some (.int .i64 (xs.length / k : Nat)) := by
  rcases h with ⟨b, o, n, c, rfl, h1, _⟩ | ⟨rfl, rfl⟩
  · simp only [lenF]; rw [h1, Nat.mul_div_cancel _ hk]
  · simp [lenF]
theorem Has.idx (h : Has 1 w v xs) {i : Nat} (hi : i < xs.length) : ∃ a, iaF 1 v (.int .i64 i) = some (.pointer (some a)) ∧ w.cell? a = some xs[i] ∧ v.ownBlock = some a.block := by
  rcases h with ⟨b, o, n, c, rfl, h1, _, h3⟩ | ⟨rfl, rfl⟩
  · refine ⟨⟨b, o + i, none⟩, ?_, h3 i _ (List.getElem?_eq_getElem hi), rfl⟩
    rw [iaF_s (by omega), add_lit]; simp
  · simp at hi
theorem Has.idxk (h : Has k w v xs) {i : Nat} (hi : i < xs.length / k) : ∃ b o, iaF k v (.int .i64 i) = some (.pointer (some ⟨b, o, none⟩)) ∧ (∀ j, j < k → ∃ u, xs[i * k + j]? = some u ∧ w.cell? ⟨b, o + j, none⟩ = some u) ∧ v.ownBlock = some b := by
  rcases h with ⟨b, o, n, c, rfl, h1, _, h3⟩ | ⟨rfl, rfl⟩
  · have hk : 0 < k := by rcases Nat.eq_zero_or_pos k with h | h; · subst h; simp at hi
                          · exact h
    have hin : i < n := by rw [h1, Nat.mul_div_cancel _ hk] at hi; exact hi
    refine ⟨b, o + i * k, ?_, fun j hj => ?_, rfl⟩
    · rw [iaF_s (by omega), add_lit]; simp
    · have hlt : i * k + j < xs.length := by
        rw [h1]
        calc i * k + j < i * k + k := by omega
          _ = (i + 1) * k := by rw [Nat.succ_mul]
          _ ≤ n * k := Nat.mul_le_mul_right k hin
      refine ⟨xs[i * k + j], List.getElem?_eq_getElem hlt, ?_⟩
      have := h3 _ _ (List.getElem?_eq_getElem hlt)
      rw [Nat.add_assoc]; exact this
  · simp at hi
theorem Has.isnil (h : Has k w v xs) : ∃ q, (∀ neg, eqnF 1 neg v = some (.bool (if neg = true then !q else q))) ∧ (q = true → xs = [] ∧ v = .slice none 0 0) := by
  rcases h with ⟨b, o, n, c, rfl, _⟩ | ⟨rfl, rfl⟩
  · exact ⟨false, fun neg => rfl, by simp⟩
  · exact ⟨true, fun neg => rfl, by simp⟩
theorem Has.own {B : Nat} {t : TypeId} {n : Nat} (h : w.ownsRow B t k v n xs) : Has k w v xs := by
  have hc := fun g (hg : v.ownBlock = some g) => h.cells hg
  obtain ⟨h1, ⟨rfl, rfl⟩ | ⟨g, cap, cur, rfl, h2, h3, h4, h5, h6, h7⟩⟩ := h
  · right; simp at h1; exact ⟨h1, rfl⟩
  · refine .inl ⟨g, 0, n, cap, rfl, h1, h4, fun j u hj => ?_⟩
    have := hc g rfl j u hj
    rwa [add_lit] at this
/-- What append reads of it. -/
theorem Has.src {P : Program} {t e : TypeId} (h : Has k w v xs) (ht : P.underlying t = some (.slice e)) (hk : 0 < k) (h1 : ∀ u ∈ xs, Go.Proofs.YtienelpepioggaaGreat.isCell u = true) : Src P k t v (xs.length / k) xs w := by
  rcases h with ⟨b, o, n, c, rfl, hl, _, h3⟩ | ⟨rfl, rfl⟩
  · rw [hl, Nat.mul_div_cancel _ hk]
    exact Src.ofSlice w ht _ n c xs hl (fun j u hj => by rw [add_lit]; exact h3 j u hj) (fun u hu => isCell_one (h1 u hu))
  · simpa using Src.ofNil (P := P) (size := k) w ht 0
end

/-- Bytes as cells. -/
def bs (l : List UInt8) : List Value := l.map fun b => .int .u8 b.toNat
theorem bs_length (l : List UInt8) : (bs l).length = l.length := by simp [bs]
theorem bs_cell (l : List UInt8) : ∀ u ∈ bs l, isCell u = true := by simp [bs]; intros; subst_vars; rfl
abbrev HasB (w : World) (v : Value) (l : List UInt8) := Has 1 w v (bs l)
def ints (l : List Int) : List Value := l.map fun n => .int .i64 n
abbrev HasI (w : World) (v : Value) (l : List Int) := Has 1 w v (ints l)

theorem Has.getB {w : World} {v : Value} {l : List UInt8} (h : HasB w v l) {i : Nat} (hi : i < l.length) : ∃ a, iaF 1 v (.int .i64 i) = some (.pointer (some a)) ∧ w.cell? a = some (.int .u8 (l[i].toNat : Int)) ∧ v.ownBlock = some a.block := by
  obtain ⟨a, h1, h2, h3⟩ := h.idx (i := i) (by simpa [bs] using hi)
  exact ⟨a, h1, by rw [h2]; simp [bs], h3⟩
theorem Has.getI {w : World} {v : Value} {l : List Int} (h : HasI w v l) {i : Nat} (hi : i < l.length) : ∃ a, iaF 1 v (.int .i64 i) = some (.pointer (some a)) ∧ w.cell? a = some (.int .i64 l[i]) ∧ v.ownBlock = some a.block := by
  obtain ⟨a, h1, h2, h3⟩ := h.idx (i := i) (by simpa [ints] using hi)
  exact ⟨a, h1, by rw [h2]; simp [ints], h3⟩
theorem Has.lenB {w : World} {v : Value} {l : List UInt8} (h : HasB w v l) (w2 : World) : lenF w2 0 v = some (.int .i64 l.length) := by rw [h.len]; simp [bs]
theorem Has.lenI {w : World} {v : Value} {l : List Int} (h : HasI w v l) (w2 : World) : lenF w2 0 v = some (.int .i64 l.length) := by rw [h.len]; simp [ints]

/-- Rows of bytes: each slice value reads as its row. -/
def Rows (w : World) : List Value → List (List UInt8) → Prop
  | [], [] => True
  | v :: vs, l :: ls => HasB w v l ∧ Rows w vs ls
  | _, _ => False
def HasR (w : World) (v : Value) (ls : List (List UInt8)) : Prop := ∃ vs, Has 1 w v vs ∧ Rows w vs ls

section
variable {w w' : World}
theorem Rows.keep {S : Nat → Prop} (hk : Keep S w w') : ∀ {vs : List Value} {ls : List (List UInt8)}, Rows w vs ls → (∀ v ∈ vs, ∀ b, v.ownBlock = some b → ¬ S b) → Rows w' vs ls
  | [], [], _, _ => trivial
  | v :: vs, l :: ls, ⟨h1, h2⟩, hs => ⟨h1.keep hk (fun b hb _ => hs v (by simp) b hb), Rows.keep hk h2 (fun u hu => hs u (by simp [hu]))⟩
theorem Rows.grow (hk : Grow w w') {vs : List Value} {ls : List (List UInt8)} (h : Rows w vs ls) : Rows w' vs ls := h.keep hk (fun _ _ _ _ => id)
theorem HasR.grow {v : Value} {ls : List (List UInt8)} (h : HasR w v ls) (hk : Grow w w') : HasR w' v ls := let ⟨vs, h1, h2⟩ := h; ⟨vs, h1.grow hk, h2.grow hk⟩
theorem Rows.length : ∀ {vs : List Value} {ls : List (List UInt8)}, Rows w vs ls → vs.length = ls.length
  | [], [], _ => rfl
  | _ :: _, _ :: _, ⟨_, h⟩ => by simp [Rows.length h]
theorem Rows.get : ∀ {vs : List Value} {ls : List (List UInt8)}, Rows w vs ls → ∀ i (h1 : i < vs.length) (h2 : i < ls.length), HasB w vs[i] ls[i]
  | _ :: _, _ :: _, ⟨h, _⟩, 0, _, _ => h
  | _ :: _, _ :: _, ⟨_, h⟩, i + 1, h1, h2 => by simpa using Rows.get h i (by simpa using h1) (by simpa using h2)
theorem HasR.len {v : Value} {ls : List (List UInt8)} (h : HasR w v ls) (w2 : World) : lenF w2 0 v = some (.int .i64 ls.length) := by
  obtain ⟨vs, h1, h2⟩ := h; rw [h1.len, h2.length]
theorem HasR.get {v : Value} {ls : List (List UInt8)} (h : HasR w v ls) {i : Nat} (hi : i < ls.length) : ∃ a u, iaF 1 v (.int .i64 i) = some (.pointer (some a)) ∧ w.cell? a = some u ∧ HasB w u ls[i] := by
  obtain ⟨vs, h1, h2⟩ := h
  have hl := h2.length
  obtain ⟨a, h3, h4, _⟩ := h1.idx (i := i) (by omega)
  exact ⟨a, _, h3, h4, h2.get i (by omega) hi⟩
theorem Rows.snoc : ∀ {vs : List Value} {ls : List (List UInt8)} {v : Value} {l : List UInt8}, Rows w vs ls → HasB w v l → Rows w (vs ++ [v]) (ls ++ [l])
  | [], [], _, _, _, h => ⟨h, trivial⟩
  | _ :: _, _ :: _, _, _, ⟨h1, h2⟩, h => ⟨h1, Rows.snoc h2 h⟩
theorem Rows.cell : ∀ {vs : List Value} {ls : List (List UInt8)}, Rows w vs ls → ∀ u ∈ vs, isCell u = true
  | v :: vs, l :: ls, ⟨h1, h2⟩, u, hu => by
    rcases List.mem_cons.1 hu with rfl | hu
    · exact h1.isCell
    · exact Rows.cell h2 u hu
end

/-- The element type of a slice type. -/
structure ElemIs (P : Program) (t e : TypeId) (size bytes : Nat) (z : Value) : Prop where
  ht : P.underlying t = some (.slice e)
  hi : ∃ i, P.info? e = some i ∧ i.zero = some z ∧ i.size = size ∧ i.bytes = bytes
  hz : z.cells.size = size
  pos : 0 < size
def elemChk (P : Program) (t : TypeId) : Option (TypeId × Nat × Nat × Value) :=
  match P.underlying t with
  | some (.slice e) => match P.info? e with
    | some i => match i.zero with
      | some z => if z.cells.size = i.size ∧ 0 < i.size then some (e, i.size, i.bytes, z) else none
      | none => none
    | none => none
  | _ => none
theorem elem_of {P : Program} {t e : TypeId} {size bytes : Nat} {z : Value} (h : elemChk P t = some (e, size, bytes, z)) : ElemIs P t e size bytes z := by
  unfold elemChk at h
  split at h
  · rename_i e' ht
    split at h
    · rename_i i hi
      split at h
      · rename_i z' hz
        split at h
        · rename_i hc; simp at h; obtain ⟨rfl, rfl, rfl, rfl⟩ := h; exact ⟨ht, ⟨i, hi, hz, rfl, rfl⟩, hc.1, hc.2⟩
        · cases h
      · cases h
    · cases h
  · cases h

section rules
variable {n : Nat} {P : Program} {k : Kont} {e : Env} {w : World} {l : List GOp} {d : Option Nat}
theorem hard_rule {o : Oper} {v : Value} {w' : World} (hr : (execOp (ev e) o).run P w = .ok (.value v) w') (h : R (symOps P l k (updO e d v) w')) : R (symOps P (⟨d, .hard o, none⟩ :: l) k e w) :=
  Or.inl (by rw [hr]; exact h)
theorem call_rule {f : FuncId} {vs : List Value} {Φ : Value → World → Prop} {Ψ : List PanicEntry → World → Prop} (hc : Calls P f vs.toArray w (Out Φ Ψ)) (hp : ∀ c w', Ψ c w' → k.p c w')
    (h : ∀ v w', Φ v w' → R (symOps P l k (updO e d v) w')) : callV P f vs d l k e w :=
  hc.mono fun en w' he => by
    cases en with
    | returned v => exact h v w' he
    | panicked c => exact hp c w' he
    | outgrown => exact (he : False).elim
/-- A call that does not panic. -/
def NoPanic (c : List PanicEntry) (w : World) : Prop := False
abbrev Ret (Φ : Value → World → Prop) := Out Φ NoPanic
theorem call0 {f : FuncId} {vs : List Value} {Φ : Value → World → Prop} (hc : Calls P f vs.toArray w (Ret Φ)) (h : ∀ v w', Φ v w' → R (symOps P l k (updO e d v) w')) : callV P f vs d l k e w :=
  call_rule hc (fun _ _ h => h.elim) h
theorem Ret.mono {Φ Φ' : Value → World → Prop} {f : FuncId} {vs : Array Value} (hc : Calls P f vs w (Ret Φ)) (h : ∀ v w', Φ v w' → Φ' v w') : Calls P f vs w (Ret Φ') :=
  hc.mono fun en w' he => by
    cases en with
    | returned v => exact h v w' he
    | panicked c => exact he
    | outgrown => exact (he : False).elim
theorem loop_rule {c : SCode} (I : Env → World → Prop) (μ : Env → World → Nat) (h0 : I e w)
    (round : ∀ e w, I e w → R (symS n P c ⟨fun e' w' => I e' w' ∧ μ e' w' < μ e w, k.x, k.r, k.p⟩ e w)) : R (symS n P (.loop c) k e w) := ⟨I, μ, h0, round⟩
theorem run_builtin {b : Builtin} {args : Array Operand} {ts : Array TypeId} {ty : TypeId} {v : Value} {w' : World} {vs : List Value} (hv : args.toList.map (ev e) = vs)
    (hr : ∀ cs, (builtin b ts ty cs vs.toArray).run P w = .ok (.value v) w') :
    (execOp (ev e) (H (.call { callee := .builtin b, args := args, argTypes := ts }) ty)).run P w = .ok (.value v) w' := by
  subst hv
  simp only [← Array.toList_map, Array.toArray_toList] at hr
  simpa [execOp, H, resolve, invoke] using hr _
/-- append onto a slice that the call owns. -/
theorem app_own {x y : Operand} {t el ty : TypeId} {size bytes B m cnt : Nat} {z v u : Value} {xs news : List Value} (he : ElemIs P t el size bytes z)
    (hx : ev e x = v) (hy : ev e y = u) (hown : w.ownsRow B el size v cnt xs) (hsrc : Has size w u news) (hm : news.length = m * size) (hcell : ∀ q ∈ news, isCell q = true)
    (hbytes : (cnt + m) * bytes ≤ 140737488355328) (h63 : cnt + m ≤ 140737488355328) (hB : B ≤ w.heap.size)
    (h : ∀ v' w', w'.ownsRow B el size v' (cnt + m) (xs ++ news) → w.grownBy w' v.ownBlock → R (symOps P l k (updO e d v') w')) :
    R (symOps P (⟨d, .hard (H (.call { callee := .builtin .append, args := #[x, y], argTypes := #[t, t] }) ty), none⟩ :: l) k e w) := by
  obtain ⟨i, hi, hz, hsz, hby⟩ := he.hi
  have hpos := he.pos
  have h63' : cnt + m ≤ maxLen := by unfold maxLen; omega
  rcases hsrc with ⟨b, o, q, c, rfl, h1, h2, h3⟩ | ⟨rfl, rfl⟩
  · have hqm : q = m := Nat.eq_of_mul_eq_mul_right hpos (h1.symm.trans hm)
    subst hqm
    obtain ⟨v', w', hr, ho, hg, _⟩ := run_append_own (P := P) w B t ty el i z size bytes he.ht hi hz hsz hby he.hz hpos v cnt xs hown ⟨b, o, none⟩ q c news h1
      (fun j u hj => by rw [add_lit]; exact h3 j u hj) (fun u hu => isCell_one (hcell u hu)) h63' hbytes hB
    exact hard_rule (run_builtin (vs := [v, .slice (some ⟨b, o, none⟩) q c]) (by simp [hx, hy]) (fun cs => by simp [builtin, hr])) (h v' w' ho hg)
  · have hm0 : m = 0 := by
      rcases Nat.eq_zero_or_pos m with h0 | h0
      · exact h0
      · have := Nat.mul_pos h0 hpos
        simp only [List.length_nil] at hm; omega
    subst hm0
    have hr : (Builtin.append_ #[t, t] ty #[v, .slice none 0 0]).run P w = .ok v w := by
      obtain ⟨_, ⟨rfl, rfl⟩ | ⟨g, cap, cur, rfl, h2, h3, h4, h5, h6, h7⟩⟩ := hown
      · simp [Builtin.append_, run_underlying he.ht, sizeOf, typeInfo, hi, Builtin.lenOf, Builtin.firstCells]
      · simp [Builtin.append_, run_underlying he.ht, sizeOf, typeInfo, hi, Builtin.lenOf, Builtin.firstCells, h4, storeCells]
    exact hard_rule (run_builtin (vs := [v, .slice none 0 0]) (by simp [hx, hy]) (fun cs => by simp [builtin, hr])) (h v w (by simpa using hown) ⟨rfl, rfl, rfl, Nat.le_refl _, fun _ _ _ => rfl⟩)
/-- A part of one cell. -/
def oneF (v : Value) : Option (Array Value) := if v.cells.size = 1 then some v.cells else none
theorem fill_one {z : Value} {x : Operand} : fillV e #[z] [(0, (1, x))] = oneF (ev e x) := by
  simp only [fillV, oneF]
  generalize ev e x = v
  by_cases h : v.cells.size = 1
  · obtain ⟨c, hc⟩ := Array.size_eq_one_iff.1 h
    simp [hc]
  · simp [h]
theorem fill_nil {z : Array Value} : fillV e z [] = some z := rfl
theorem oneF_cell {v : Value} (h : isCell v = true) : oneF v = some #[v] := by simp [oneF, isCell_cells h]
theorem oneF_int {kk : IntKind} {a : Int} : oneF (.int kk a) = some #[.int kk a] := rfl
/-- A new row of one cell, as append's source. -/
theorem Has.new1 {v : Value} {t : TypeId} : Has 1 (w.alloc (.cells #[v] t)) (.slice (some ⟨w.heap.size, 0, none⟩) 1 1) [v] := by
  refine .inl ⟨w.heap.size, 0, 1, 1, rfl, rfl, Nat.le_refl _, fun j u hj => ?_⟩
  rw [cell_block (heap_alloc_new w _)]
  match j, hj with
  | 0, hj => simpa using hj
/-- make, elements of one cell. -/
theorem mk_rule {x y : Operand} {t el ty : TypeId} {bytes : Nat} {z : Value} {kx ky : IntKind} {a c : Int} (he : ElemIs P t el 1 bytes z) (hx : ev e x = .int kx a) (hy : ev e y = .int ky c) (h0 : 0 ≤ a) (h1 : a ≤ c)
    (h2 : (bytes : Int) * c ≤ 281474976710656) (h3 : c ≤ 281474976710656) (hzc : z.cells = #[z])
    (h : R (symOps P l k (updO e d (.slice (some ⟨w.heap.size, 0, none⟩) a.toNat c.toNat)) (w.alloc (.cells (Array.replicate c.toNat z) el)))) :
    R (symOps P (⟨d, .hard (H (.makeSlice t x y) ty), none⟩ :: l) k e w) := by
  obtain ⟨i, hi, hz, hsz, hby⟩ := he.hi
  have hm : madeCells z.cells (c.toNat * i.size) = Array.replicate c.toNat z := by
    apply Array.ext
    · simp [size_madeCells, hsz]
    · intro j h1 h2; simp [madeCells, hzc, Nat.mod_one]
  have hr := run_make (P := P) w t el i z he.ht hi hz kx ky a c h0 h1 (by rw [hby]; exact h2) (by omega)
  rw [hm] at hr
  exact hard_rule (by simp only [execOp, H, hx, hy, Sem.run_bind, hr, Result.andThen_ok]; rfl) h
end rules

section own
variable {w w' : World} {B n : Nat} {el : TypeId} {v : Value} {xs : List Value}
/-- A store into a row that the call owns. -/
theorem own_store (h : w.ownsRow B el 1 v n xs) {i : Nat} (hi : i < n) {u : Value} (hu : isCell u = true) :
    ∃ a w', iaF 1 v (.int .i64 i) = some (.pointer (some a)) ∧ stF w (.pointer (some a)) u = some (undef, w') ∧ w'.ownsRow B el 1 v n (xs.set i u) ∧ Keep (fun b => v.ownBlock = some b) w w' ∧ v.ownBlock = some a.block := by
  obtain ⟨h1, ⟨_, h2⟩ | ⟨g, cap, cur, rfl, h2, h3, h4, h5, h6, h7⟩⟩ := h
  · omega
  · have hlt : i < cur.size := by omega
    have hc : w.cell? ⟨g, i, none⟩ = some cur[i] := by rw [cell_block h3]; exact Array.getElem?_eq_getElem hlt
    refine ⟨⟨g, i, none⟩, w.setCell ⟨g, i, none⟩ u, ?_, stF_p hu hc (frozen_block h3 i), ⟨by simpa using h1, .inr ⟨g, cap, cur.setIfInBounds i u, rfl, h2, ?_, h4, h5, by simpa using h6, ?_⟩⟩, ?_, rfl⟩
    · rw [iaF_s (by omega), add_lit]; simp
    · have hg : g < w.heap.size := (Array.getElem?_eq_some_iff.1 h3).1
      simp only [World.setCell, Array.getElem?_modify, if_pos rfl, h3, Option.map_some]
      simp
    · rw [← h7]
      simp [List.take_set]
    · exact (Keep.refl _ _).setCell u (fun _ => rfl)
theorem own_keep {S : Nat → Prop} (h : w.ownsRow B el 1 v n xs) (hk : Keep S w w') (hs : ∀ b, v.ownBlock = some b → ¬ S b) : w'.ownsRow B el 1 v n xs := by
  obtain ⟨h1, h2 | ⟨g, cap, cur, rfl, h2, h3, h4⟩⟩ := h
  · exact ⟨h1, .inl h2⟩
  · exact ⟨h1, .inr ⟨g, cap, cur, rfl, h2, hk.heap h3 (hs g rfl), h4⟩⟩
theorem own_made (w : World) (B : Nat) (hB : B ≤ w.heap.size) (el : TypeId) (n : Nat) (hn : n ≤ 281474976710656) (z : Value) : (w.alloc (.cells (Array.replicate n z) el)).ownsRow B el 1 (.slice (some ⟨w.heap.size, 0, none⟩) n n) n (List.replicate n z) :=
  ⟨by simp, .inr ⟨w.heap.size, n, _, rfl, hB, heap_alloc_new w _, Nat.le_refl _, by unfold maxLen; omega, by simp, by simp⟩⟩
theorem own_base {B' : Nat} (h : w.ownsRow B el 1 v n xs) (hB : B' ≤ B) : w.ownsRow B' el 1 v n xs := by
  obtain ⟨h1, h2 | ⟨g, cap, cur, rfl, h2, h3⟩⟩ := h
  · exact ⟨h1, .inl h2⟩
  · exact ⟨h1, .inr ⟨g, cap, cur, rfl, Nat.le_trans hB h2, h3⟩⟩
theorem own_ne {B' k k' m : Nat} {t t' : TypeId} {u : Value} {ys : List Value} (h : w.ownsRow B t k v n xs) (h' : w.ownsRow B' t' k' u m ys) (ht : t ≠ t') {b : Nat} (hb : v.ownBlock = some b) : u.ownBlock ≠ some b := by
  intro hu
  obtain ⟨_, ⟨rfl, _⟩ | ⟨g, cap, cur, rfl, _, h3, _⟩⟩ := h
  · simp [Value.ownBlock] at hb
  · obtain ⟨_, ⟨rfl, _⟩ | ⟨g', cap', cur', rfl, _, h3', _⟩⟩ := h'
    · simp [Value.ownBlock] at hu
    · simp [Value.ownBlock] at hb hu
      subst hb; subst hu
      rw [h3] at h3'
      simp at h3'
      exact ht h3'.2
theorem own_grow (h : w.ownsRow B el 1 v n xs) (hk : Grow w w') : w'.ownsRow B el 1 v n xs := own_keep h hk (fun _ _ => id)
end own

/-- Rows that the call owns. -/
def RowsO (B : Nat) (t : TypeId) (w : World) : List Value → List (List UInt8) → Prop
  | [], [] => True
  | v :: vs, l :: ls => w.ownsRow B t 1 v l.length (bs l) ∧ RowsO B t w vs ls
  | _, _ => False
section
variable {w w' : World} {B : Nat} {t : TypeId}
theorem RowsO.rows : ∀ {vs : List Value} {ls : List (List UInt8)}, RowsO B t w vs ls → Rows w vs ls
  | [], [], _ => trivial
  | _ :: _, _ :: _, ⟨h1, h2⟩ => ⟨Has.own h1, RowsO.rows h2⟩
theorem RowsO.keep {S : Nat → Prop} (hk : Keep S w w') (hs : ∀ b, S b → ∀ u n xs, w.ownsRow B t 1 u n xs → u.ownBlock ≠ some b) : ∀ {vs : List Value} {ls : List (List UInt8)}, RowsO B t w vs ls → RowsO B t w' vs ls
  | [], [], _ => trivial
  | _ :: _, _ :: _, ⟨h1, h2⟩ => ⟨own_keep h1 hk (fun b hb hS => hs b hS _ _ _ h1 hb), RowsO.keep hk hs h2⟩
theorem RowsO.grow (hk : Grow w w') {vs : List Value} {ls : List (List UInt8)} (h : RowsO B t w vs ls) : RowsO B t w' vs ls := h.keep hk (fun _ h => h.elim)
theorem RowsO.base {B' : Nat} (hB : B' ≤ B) : ∀ {vs : List Value} {ls : List (List UInt8)}, RowsO B t w vs ls → RowsO B' t w vs ls
  | [], [], _ => trivial
  | _ :: _, _ :: _, ⟨h1, h2⟩ => ⟨own_base h1 hB, RowsO.base hB h2⟩
theorem RowsO.length : ∀ {vs : List Value} {ls : List (List UInt8)}, RowsO B t w vs ls → vs.length = ls.length
  | [], [], _ => rfl
  | _ :: _, _ :: _, ⟨_, h⟩ => by simp [RowsO.length h]
theorem RowsO.snoc : ∀ {vs : List Value} {ls : List (List UInt8)} {v : Value} {l : List UInt8}, RowsO B t w vs ls → w.ownsRow B t 1 v l.length (bs l) → RowsO B t w (vs ++ [v]) (ls ++ [l])
  | [], [], _, _, _, h => ⟨h, trivial⟩
  | _ :: _, _ :: _, _, _, ⟨h1, h2⟩, h => ⟨h1, RowsO.snoc h2 h⟩
theorem RowsO.get : ∀ {vs : List Value} {ls : List (List UInt8)}, RowsO B t w vs ls → ∀ i (h1 : i < vs.length) (h2 : i < ls.length), w.ownsRow B t 1 vs[i] ls[i].length (bs ls[i])
  | _ :: _, _ :: _, ⟨h, _⟩, 0, _, _ => h
  | _ :: _, _ :: _, ⟨_, h⟩, i + 1, h1, h2 => by simpa using RowsO.get h i (by simpa using h1) (by simpa using h2)
end
/-- A slice of rows, all of it made by the call: the slice of type tr, the rows of type t. -/
def FreshR (B : Nat) (tr t : TypeId) (w : World) (v : Value) (ls : List (List UInt8)) : Prop := ∃ vs, w.ownsRow B tr 1 v ls.length vs ∧ RowsO B t w vs ls
theorem FreshR.has {B : Nat} {tr t : TypeId} {w : World} {v : Value} {ls : List (List UInt8)} (h : FreshR B tr t w v ls) : HasR w v ls := let ⟨vs, h1, h2⟩ := h; ⟨vs, Has.own h1, h2.rows⟩
theorem FreshR.grow {B : Nat} {tr t : TypeId} {w w' : World} {v : Value} {ls : List (List UInt8)} (h : FreshR B tr t w v ls) (hk : Grow w w') : FreshR B tr t w' v ls := let ⟨vs, h1, h2⟩ := h; ⟨vs, own_grow h1 hk, h2.grow hk⟩
end Go.Proofs.YtienelpepioggaaGreat

/- Regions that draw their order: a plan, reckoned out of the region's edges; what only reckons or reads what stays is taken first. -/
namespace Go.Proofs.YtienelpepioggaaGreat
open Go

def gopAt (P : Program) (ops : Array Oper) (i : Nat) : Option GOp :=
  match ops[i]? with
  | some o => match guardOf ops o.guard with
    | some g => some ⟨o.dst, toOp P o, g⟩
    | none => none
  | none => none

/-- The operands of an operation; none: it is not looked into. -/
def opsOf : SOp → Option (List Operand)
  | .mv x => some [x]
  | .pick c x y => some [c, x, y]
  | .ld x => some [x]
  | .ldn _ x => some [x]
  | .st x y => some [x, y]
  | .stn _ x y => some [x, y]
  | .nilc x => some [x]
  | .bin _ x y => some [x, y]
  | .beq _ x y => some [x, y]
  | .eqn _ _ x => some [x]
  | .un _ x => some [x]
  | .fa _ x => some [x]
  | .fld _ _ _ x => some [x]
  | .ia _ x i => some [x, i]
  | .iaa _ _ x i => some [x, i]
  | .idx _ _ _ x i => some [x, i]
  | .sidx x i => some [x, i]
  | .ext x _ => some [x]
  | .box _ x => some [x]
  | .alloc _ _ => some []
  | .bld _ ps => some (ps.map (·.2.2))
  | .bsl _ _ _ ps => some (ps.map (·.2.2))
  | .mkmap => some []
  | .mkif _ x => some [x]
  | .mkfn _ a b => some (a ++ b)
  | .len _ x => some [x]
  | .slc _ x lo hi mx => some (x :: (lo.toList ++ hi.toList ++ mx.toList))
  | .slca _ _ x lo hi mx => some (x :: (lo.toList ++ hi.toList ++ mx.toList))
  | .lkp _ _ x i _ => some [x, i]
  | .conv _ x => some [x]
  | .ta _ _ x _ => some [x]
  | .call _ args => some args
  | .hard o => match o.op with | .select .. => none | op => some op.operands.toList
def slotsOf (g : GOp) : Option (List Nat) :=
  (opsOf g.s).map fun l => (l.filterMap fun | .tmp t => some t | _ => none) ++ (match g.g with | some (t, _) => [t] | none => [])

/-- It only reckons. -/
def isPure : SOp → Bool
  | .mv _ | .pick .. | .nilc _ | .bin .. | .beq .. | .eqn .. | .un .. | .fa .. | .fld .. | .ia .. | .iaa .. | .idx .. | .sidx .. | .ext .. | .bld .. | .mkif .. | .mkfn .. | .slc .. | .slca .. | .conv .. | .ta .. => true
  | .len k _ => k != 2
  | _ => false
def isRead : SOp → Bool
  | .ld _ => true
  | .lkp .. => true
  | _ => false

/-- Neither looks at what the other writes. -/
def apart (x y : GOp) : Bool :=
  match slotsOf x, slotsOf y with
  | some a, some b =>
    (match x.d with | some d => !b.contains d && y.d != some d | none => true) && (match y.d with | some d => !a.contains d | none => true)
  | _, _ => false

def directOn (ops : Array Oper) (j i : Nat) : Bool := match ops[j]? with | some o => o.after.any fun e => Region.binds .any e && e.on == i | none => false
def reach (ops : Array Oper) : Nat → Nat → Nat → Bool
  | 0, _, _ => false
  | f + 1, j, i => match ops[j]? with
    | some o => o.after.any fun e => Region.binds .any e && (e.on == i || reach ops f e.on i)
    | none => false
def pureAt (P : Program) (ops : Array Oper) (i : Nat) : Bool := match gopAt P ops i with | some g => isPure g.s | none => false
def readAt (P : Program) (ops : Array Oper) (i : Nat) : Bool := match gopAt P ops i with | some g => isRead g.s | none => false
/-- A read that waits for nothing but what reckons and reads. -/
def earlyR (P : Program) (ops : Array Oper) (i : Nat) : Bool := readAt P ops i && (List.range ops.size).all fun t => pureAt P ops t || readAt P ops t || !reach ops ops.size i t
def earlyAt (P : Program) (ops : Array Oper) (i : Nat) : Bool := pureAt P ops i || earlyR P ops i
/-- Behind it nothing that is read early is still to come. -/
def finAt (P : Program) (ops : Array Oper) (j : Nat) : Bool := (List.range ops.size).all fun i => i == j || !earlyR P ops i || reach ops ops.size j i
def takeable (P : Program) (ops : Array Oper) (listed : Array Bool) (i : Nat) : Bool :=
  earlyAt P ops i && (List.range ops.size).all fun j => j == i || listed.getD j true || directOn ops j i ||
    match gopAt P ops i, gopAt P ops j with | some x, some y => apart x y | _, _ => false

inductive Plan where
  | done
  | bad
  | stop
  | take (g : GOp) (p : Plan)
  | alt (fin : Bool) (g : GOp) (p rest : Plan)

def mkAlts (P : Program) (ops : Array Oper) (f : Nat → Plan) : List Nat → Plan
  | [] => .stop
  | i :: l => match gopAt P ops i with
    | some g => .alt (finAt P ops i) g (f i) (mkAlts P ops f l)
    | none => .bad
def mkPlan (P : Program) (ops : Array Oper) : Nat → Array Bool → Plan
  | 0, listed => if (Region.ready .any ops listed).isEmpty then .done else .bad
  | f + 1, listed =>
    match Region.ready .any ops listed with
    | [] => .done
    | r :: rs => match (r :: rs).find? (takeable P ops listed) with
      | some i => match gopAt P ops i with
        | some g => .take g (mkPlan P ops f (listed.setIfInBounds i true))
        | none => .bad
      | none => mkAlts P ops (fun i => mkPlan P ops f (listed.setIfInBounds i true)) (r :: rs)
def planOf (P : Program) : Code → Plan
  | .region _ ops true => mkPlan P ops ops.size (Array.replicate ops.size false)
  | _ => .bad

/-- A cell, a map that is read is none of those that may change. -/
def ldX (X : Nat → Prop) (v : Value) : Prop := match v with | .pointer (some a) => ¬ X a.block | _ => False
def lkX (X : Nat → Prop) (v : Value) : Prop := match v with | .map (some r) => ¬ X r | .map none => True | _ => False
def readOK (X : Nat → Prop) (s : SOp) (e : Env) : Prop :=
  match s with
  | .ld x => ldX X (ev e x)
  | .lkp _ _ x _ _ => lkX X (ev e x)
  | _ => True

def wantedE (g : Option (Nat × Bool)) (e : Env) : Prop := match g with | none => True | some (t, want) => e t = .bool want

def planS (P : Program) (X : Nat → Prop) (w0 : World) (k : Kont) : Plan → Env → World → Prop
  | .done, e, w => k.n e w
  | .bad, _, _ => False
  | .stop, _, _ => True
  | .take g p, e, w => (wantedE g.g e → readOK X g.s e) ∧ symOps P [g] ⟨fun e' _ => planS P X w0 k p e' w, k.x, k.r, fun _ _ => False⟩ e w0
  | .alt fin g p rest, e, w => symOps P [g] ⟨fun e' w' => (fin = true ∨ Keep X w0 w') ∧ planS P X w0 k p e' w', k.x, k.r, k.p⟩ e w ∧ planS P X w0 k rest e w

theorem v1_mono {o : Option Value} {K K' : Value → World → Prop} {w : World} (hm : ∀ v w, K v w → K' v w) (h : v1 o K w) : v1 o K' w := by
  cases o with
  | none => exact h
  | some v => exact hm _ _ h
theorem v2_mono {o : Option (Value × World)} {K K' : Value → World → Prop} (hm : ∀ v w, K v w → K' v w) (h : v2 o K) : v2 o K' := by
  cases o with
  | none => exact h
  | some v => exact hm _ _ h
theorem symOp_mono {P : Program} {s : SOp} {K K' : Value → World → Prop} {e : Env} {w : World} (hm : ∀ v w, K v w → K' v w) (h : symOp P s e w K) : symOp P s e w K' := by
  cases s
  case mv => rw [O_mv] at h ⊢; exact v1_mono hm h
  case pick => rw [O_pick] at h ⊢; exact v1_mono hm h
  case ld => rw [O_ld] at h ⊢; exact v1_mono hm h
  case ldn => rw [O_ldn] at h ⊢; exact v1_mono hm h
  case st => rw [O_st] at h ⊢; exact v2_mono hm h
  case stn => rw [O_stn] at h ⊢; exact v2_mono hm h
  case nilc => rw [O_nilc] at h ⊢; exact v1_mono hm h
  case bin => rw [O_bin] at h ⊢; exact v1_mono hm h
  case beq => rw [O_beq] at h ⊢; exact v1_mono hm h
  case eqn => rw [O_eqn] at h ⊢; exact v1_mono hm h
  case un => rw [O_un] at h ⊢; exact v1_mono hm h
  case fa => rw [O_fa] at h ⊢; exact v1_mono hm h
  case fld => rw [O_fld] at h ⊢; exact v1_mono hm h
  case ia => rw [O_ia] at h ⊢; exact v1_mono hm h
  case iaa => rw [O_iaa] at h ⊢; exact v1_mono hm h
  case idx => rw [O_idx] at h ⊢; exact v1_mono hm h
  case sidx => rw [O_sidx] at h ⊢; exact v1_mono hm h
  case ext => rw [O_ext] at h ⊢; exact v1_mono hm h
  case box => rw [O_box] at h ⊢; exact v2_mono hm h
  case alloc => rw [O_alloc] at h ⊢; exact v2_mono hm h
  case bld => rw [O_bld] at h ⊢; exact v1_mono hm h
  case bsl => rw [O_bsl] at h ⊢; exact v2_mono hm h
  case mkmap => rw [O_mkmap] at h ⊢; exact v2_mono hm h
  case mkif => rw [O_mkif] at h ⊢; exact v1_mono hm h
  case mkfn => rw [O_mkfn] at h ⊢; exact v1_mono hm h
  case len => rw [O_len] at h ⊢; exact v1_mono hm h
  case slc => rw [O_slc] at h ⊢; exact v1_mono hm h
  case slca => rw [O_slca] at h ⊢; exact v1_mono hm h
  case lkp => rw [O_lkp] at h ⊢; exact v1_mono hm h
  case conv => rw [O_conv] at h ⊢; exact v1_mono hm h
  case ta => rw [O_ta] at h ⊢; exact v1_mono hm h
  case call => exact h
  case hard => exact h

theorem hardOp_mono {P : Program} {o : Oper} {K K' : Value → World → Prop} {p : List PanicEntry → World → Prop} {e : Env} {w : World} (hm : ∀ v w, K v w → K' v w) (h : hardOp P o K p e w) : hardOp P o K' p e w := by
  rcases h with h | h
  · left
    generalize (execOp (ev e) o).run P w = r at *
    cases r with
    | ok x w' =>
      cases x <;> simp only [hardK] at h ⊢
      case value v => exact hm _ _ h
      case skip => exact hm _ _ h
      case enter f args =>
        refine Calls.mono h fun en w'' he => ?_
        cases en with
        | returned v => exact hm _ _ he
        | panicked c => exact he
        | outgrown => exact he
    | halt x w' => cases x <;> simp only [hardK] at h ⊢; exact h
  · exact .inr h

/-- One operation, whatever it is. -/
def oneS (P : Program) (s : SOp) (e : Env) (w : World) (K : Value → World → Prop) (p : List PanicEntry → World → Prop) : Prop :=
  match s with
  | .hard o => hardOp P o K p e w
  | .call f args => Calls P f (args.map (ev e)).toArray w (Out K p)
  | s => symOp P s e w K
theorem oneS_mono {P : Program} {s : SOp} {K K' : Value → World → Prop} {p : List PanicEntry → World → Prop} {e : Env} {w : World} (hm : ∀ v w, K v w → K' v w) (h : oneS P s e w K p) : oneS P s e w K' p := by
  cases s
  case hard o => exact hardOp_mono hm h
  case call f args =>
    refine Calls.mono h fun en w'' he => ?_
    cases en with
    | returned v => exact hm _ _ he
    | panicked c => exact he
    | outgrown => exact he
  all_goals (simp only [oneS] at h ⊢; exact symOp_mono hm h)
theorem symOps_one {P : Program} {g : GOp} {k : Kont} {e : Env} {w : World} :
    symOps P [g] k e w = guardK g.g e (oneS P g.s e w (fun v w' => k.n (updO e g.d v) w') k.p) (k.n (updO e g.d undef) w) := by
  obtain ⟨d, s, g⟩ := g
  cases s <;> rfl

theorem fillV_congr {e e' : Env} : ∀ (l : List (Nat × Nat × Operand)) (z : Array Value), (∀ x ∈ l.map (·.2.2), ev e x = ev e' x) → fillV e z l = fillV e' z l := by
  intro l
  induction l with
  | nil => intro z _; rfl
  | cons p l ih =>
    intro z h
    obtain ⟨a, b, x⟩ := p
    have hx : ev e x = ev e' x := h x (by simp)
    have hl := fun z => ih z (fun y hy => h y (by simp at hy ⊢; exact .inr hy))
    simp only [fillV, hx, hl]

theorem oneS_congr {P : Program} {s : SOp} {l : List Operand} (hs : opsOf s = some l) {K : Value → World → Prop} {p : List PanicEntry → World → Prop} {e e' : Env} {w : World} (he : ∀ x ∈ l, ev e x = ev e' x) :
    oneS P s e w K p = oneS P s e' w K p := by
  have hm : ∀ (as : List Operand), (∀ x ∈ as, x ∈ l) → as.map (ev e) = as.map (ev e') := fun as ha => List.map_congr_left fun x hx => he x (ha x hx)
  have ho : ∀ (o : Option Operand), (∀ x ∈ o.toList, x ∈ l) → o.map (ev e) = o.map (ev e') := fun o ha => by
    cases o with
    | none => rfl
    | some x => simp [he x (ha x (by simp))]
  cases s
  case hard o =>
    have hex : execOp (ev e) o = execOp (ev e') o := by
      simp only [opsOf] at hs
      split at hs
      · cases hs
      · rename_i hsel
        simp at hs; subst hs
        exact execOp_congr o (fun cs b h => hsel cs b h) (fun x hx => he x (by simpa using hx))
    simp only [oneS, hardOp, asksE, hex]
  all_goals simp only [opsOf, Option.some.injEq] at hs
  case call f args => subst hs; simp only [oneS, hm args (fun x h => h)]
  case bld z ps => subst hs; simp only [oneS, symOp, fillV_congr ps z he]
  case bsl t z n ps => subst hs; simp only [oneS, symOp, fillV_congr ps z he]
  case mkfn fn a b => subst hs; simp only [oneS, symOp, hm a (fun x h => by simp [h]), hm b (fun x h => by simp [h])]
  case slc size x lo hi mx =>
    subst hs
    simp only [oneS, symOp, he x (by simp), ho lo (fun x h => by simp at h ⊢; simp [h]), ho hi (fun x h => by simp at h ⊢; simp [h]), ho mx (fun x h => by simp at h ⊢; simp [h])]
  case slca m size x lo hi mx =>
    subst hs
    simp only [oneS, symOp, he x (by simp), ho lo (fun x h => by simp at h ⊢; simp [h]), ho hi (fun x h => by simp at h ⊢; simp [h]), ho mx (fun x h => by simp at h ⊢; simp [h])]
  all_goals (subst hs; simp at he; simp only [oneS, symOp, he])

theorem updO_comm {e : Env} {a b : Option Nat} {u v : Value} (h : ∀ t, a = some t → b ≠ some t) : updO (updO e a u) b v = updO (updO e b v) a u := by
  cases a with
  | none => rfl
  | some s =>
    cases b with
    | none => rfl
    | some t =>
      have hne : s ≠ t := fun he => h s rfl (by rw [he])
      funext x
      simp only [updO, upd]
      by_cases h1 : x = t
      · have : ¬ x = s := by omega
        simp [h1]; intro h2; omega
      · simp [h1]
theorem ev_updO {e : Env} {d : Option Nat} {v : Value} {x : Operand} (h : ∀ t, d = some t → x ≠ .tmp t) : ev (updO e d v) x = ev e x := by
  cases d with
  | none => rfl
  | some t =>
    cases x with
    | tmp s =>
      have hne : s ≠ t := fun he => h t rfl (by rw [he])
      simp [updO, ev, upd, hne]
    | _ => rfl
theorem updO_at {e : Env} {d : Option Nat} {v : Value} {t : Nat} (h : d ≠ some t) : updO e d v t = e t := by
  cases d with
  | none => rfl
  | some s =>
    have hne : t ≠ s := fun he => h (by rw [he])
    simp [updO, upd, hne]

structure Apart (x y : GOp) : Prop where
  s : ∃ l, opsOf y.s = some l ∧ ∀ d, x.d = some d → .tmp d ∉ l
  g : ∀ d, x.d = some d → ∀ b, y.g ≠ some (d, b)
  d : ∀ d, x.d = some d → y.d ≠ some d
theorem apart_spec {x y : GOp} (h : apart x y = true) : Apart x y ∧ Apart y x := by
  unfold apart slotsOf at h
  cases hx : opsOf x.s with
  | none => simp [hx] at h
  | some lx =>
    cases hy : opsOf y.s with
    | none => simp [hx, hy] at h
    | some ly =>
      simp only [hx, hy, Option.map_some, Bool.and_eq_true] at h
      obtain ⟨h1, h2⟩ := h
      constructor
      · refine ⟨⟨ly, hy, fun d hd hm => ?_⟩, fun d hd b hb => ?_, fun d hd he => ?_⟩
        · simp only [hd, Bool.and_eq_true, Bool.not_eq_true'] at h1
          have := h1.1
          simp at this
          exact this.1 _ hm rfl
        · simp only [hd, Bool.and_eq_true, Bool.not_eq_true'] at h1
          have := h1.1
          simp [hb] at this
        · simp only [hd, Bool.and_eq_true] at h1
          simp [he] at h1
      · refine ⟨⟨lx, hx, fun d hd hm => ?_⟩, fun d hd b hb => ?_, fun d hd he => ?_⟩
        · simp only [hd, Bool.not_eq_true'] at h2
          simp at h2
          exact h2.1 _ hm rfl
        · simp only [hd, Bool.not_eq_true'] at h2
          simp [hb] at h2
        · cases hxd : x.d with
          | none => rw [hxd] at he; cases he
          | some t =>
            rw [hxd] at he
            cases he
            simp only [hxd, Bool.and_eq_true] at h1
            simp [hd] at h1
theorem Apart.ops {x y : GOp} (h : Apart x y) {P : Program} {e : Env} {w : World} {v : Value} {K : Value → World → Prop} {p : List PanicEntry → World → Prop} : oneS P y.s (updO e x.d v) w K p = oneS P y.s e w K p := by
  obtain ⟨l, hl, hn⟩ := h.s
  exact oneS_congr hl fun z hz => ev_updO fun t ht he => hn t ht (he ▸ hz)
theorem Apart.guard {x y : GOp} (h : Apart x y) {e : Env} {v : Value} {A B : Prop} : guardK y.g (updO e x.d v) A B = guardK y.g e A B := by
  cases hg : y.g with
  | none => rfl
  | some tw =>
    obtain ⟨t, b⟩ := tw
    simp only [guardK, updO_at (e := e) (v := v) (fun hd => h.g t hd b hg)]
theorem guardK_mono {g : Option (Nat × Bool)} {e : Env} {A B A' B' : Prop} (ha : A → A') (hb : B → B') (h : guardK g e A B) : guardK g e A' B' := by
  cases g with
  | none => exact ha h
  | some tw =>
    obtain ⟨t, b⟩ := tw
    simp only [guardK, valK] at h ⊢
    split at h
    · rename_i c hc
      split at h
      · rename_i hcb; rw [if_pos hcb]; exact ha h
      · rename_i hcb; rw [if_neg hcb]; exact hb h
    · exact hb h
theorem symOps_mono1' {P : Program} {g : GOp} {K K' : Env → World → Prop} {x r : _} {p : List PanicEntry → World → Prop} {e : Env} {w : World} (hm : ∀ e w, K e w → K' e w)
    (h : symOps P [g] ⟨K, x, r, p⟩ e w) : symOps P [g] ⟨K', x, r, p⟩ e w := by
  rw [symOps_one] at h ⊢
  exact guardK_mono (oneS_mono fun v w' hk => hm _ w' hk) (hm _ _) h
/-- Moved ahead of another operation. -/
theorem symOps_comm {P : Program} {x y : GOp} (hap : Apart x y) {K : Env → World → Prop} {x' r : _} {p : List PanicEntry → World → Prop} {e : Env} {w : World} {v : Value}
    (h : symOps P [y] ⟨K, x', r, p⟩ (updO e x.d v) w) : symOps P [y] ⟨fun e' w' => (∃ u, e' = updO e y.d u) ∧ K (updO e' x.d v) w', x', r, p⟩ e w := by
  rw [symOps_one] at h ⊢
  rw [hap.guard, hap.ops] at h
  refine guardK_mono (oneS_mono fun u w' hk => ⟨⟨u, rfl⟩, ?_⟩) (fun hk => ⟨⟨undef, rfl⟩, ?_⟩) h
  · rw [updO_comm hap.d] at hk; exact hk
  · rw [updO_comm hap.d] at hk; exact hk

theorem pure_yields {P : Program} {s : SOp} (hs : isPure s = true) {e : Env} {w0 : World} {K0 : Value → World → Prop} {p : List PanicEntry → World → Prop} (h : oneS P s e w0 K0 p) :
    ∃ v, K0 v w0 ∧ ∀ w K p, K v w → oneS P s e w K p := by
  have key : ∀ (o : Option Value), (∀ w K p, oneS P s e w K p = v1 o K w) → ∃ v, K0 v w0 ∧ ∀ w K p, K v w → oneS P s e w K p := by
    intro o hall
    have ho := h
    rw [hall] at ho
    cases o with
    | none => exact ho.elim
    | some v => exact ⟨v, ho, fun w K p hk => by rw [hall]; exact hk⟩
  cases s <;> simp only [isPure, Bool.false_eq_true] at hs
  case mv => exact key _ (fun w K p => O_mv (P := P))
  case pick => exact key _ (fun w K p => O_pick (P := P))
  case nilc => exact key _ (fun w K p => O_nilc (P := P))
  case bin => exact key _ (fun w K p => O_bin (P := P))
  case beq => exact key _ (fun w K p => O_beq (P := P))
  case eqn => exact key _ (fun w K p => O_eqn (P := P))
  case un => exact key _ (fun w K p => O_un (P := P))
  case fa => exact key _ (fun w K p => O_fa (P := P))
  case fld => exact key _ (fun w K p => O_fld (P := P))
  case ia => exact key _ (fun w K p => O_ia (P := P))
  case iaa => exact key _ (fun w K p => O_iaa (P := P))
  case idx => exact key _ (fun w K p => O_idx (P := P))
  case sidx => exact key _ (fun w K p => O_sidx (P := P))
  case ext => exact key _ (fun w K p => O_ext (P := P))
  case bld => exact key _ (fun w K p => O_bld (P := P))
  case mkif => exact key _ (fun w K p => O_mkif (P := P))
  case mkfn => exact key _ (fun w K p => O_mkfn (P := P))
  case slc => exact key _ (fun w K p => O_slc (P := P))
  case slca => exact key _ (fun w K p => O_slca (P := P))
  case conv => exact key _ (fun w K p => O_conv (P := P))
  case ta => exact key _ (fun w K p => O_ta (P := P))
  case len kind x =>
    have hk : ∀ w, lenF w kind (ev e x) = lenF w0 kind (ev e x) := by
      intro w
      unfold lenF
      split <;> first | rfl | (simp at hs)
    exact key _ (fun w K p => (O_len (P := P)).trans (by rw [hk w]))

theorem pure_same {P : Program} {s : SOp} (hs : isPure s = true) {e : Env} {w : World} {K : Value → World → Prop} {p : List PanicEntry → World → Prop} (h : oneS P s e w K p) : oneS P s e w (fun v w' => w' = w ∧ K v w') p := by
  obtain ⟨v, h1, h2⟩ := pure_yields hs h
  exact h2 w _ p ⟨rfl, h1⟩
theorem symOps_same {P : Program} {g : GOp} {K : Env → World → Prop} {x r : _} {p : List PanicEntry → World → Prop} {e : Env} {w : World}
    (h : symOps P [g] ⟨K, x, r, p⟩ e w) : symOps P [g] ⟨fun e' w' => (isPure g.s = true → w' = w) ∧ K e' w', x, r, p⟩ e w := by
  rw [symOps_one] at h ⊢
  refine guardK_mono (fun h => ?_) (fun h => ⟨fun _ => rfl, h⟩) h
  by_cases hp : isPure g.s = true
  · exact oneS_mono (fun v w' hk => ⟨fun _ => hk.1, hk.2⟩) (pure_same hp h)
  · exact oneS_mono (fun v w' hk => ⟨fun h => absurd h hp, hk⟩) h

/-- What it yields is the same in every world that keeps what it reads. -/
def YieldsAt (P : Program) (C : World → Prop) (g : GOp) (e : Env) (v : Value) : Prop :=
  ∀ w, C w → ∀ (K : Env → World → Prop) (x r : _) (p : List PanicEntry → World → Prop), K (updO e g.d v) w → symOps P [g] ⟨K, x, r, p⟩ e w
theorem YieldsAt.move {P : Program} {C : World → Prop} {g y : GOp} {e : Env} {v u : Value} (h : YieldsAt P C g e v) (hap : Apart y g) (hap' : Apart g y) : YieldsAt P C g (updO e y.d u) v := by
  intro w hw K x r p hk
  have h1 := h w hw (fun e' w' => K (updO e' y.d u) w') x r p (by rw [updO_comm hap'.d]; exact hk)
  rw [symOps_one] at h1 ⊢
  rw [hap.guard, hap.ops]
  refine guardK_mono (oneS_mono fun z w' hz => ?_) (fun hz => ?_) h1
  · have : updO (updO e g.d z) y.d u = updO (updO e y.d u) g.d z := updO_comm hap'.d
    rw [← this]; exact hz
  · have : updO (updO e g.d undef) y.d u = updO (updO e y.d u) g.d undef := updO_comm hap'.d
    rw [← this]; exact hz

theorem early_yields {P : Program} {X : Nat → Prop} {w0 : World} {g : GOp} {e : Env} {Z : Env → Prop} {x r : _} (hs : isPure g.s = true ∨ isRead g.s = true) (hro : wantedE g.g e → readOK X g.s e)
    (h : symOps P [g] ⟨fun e' _ => Z e', x, r, fun _ _ => False⟩ e w0) : ∃ v, Z (updO e g.d v) ∧ YieldsAt P (fun w => isPure g.s = true ∨ Keep X w0 w) g e v := by
  have step : ∀ (v : Value), (∀ w K p, (isPure g.s = true ∨ Keep X w0 w) → K v w → oneS P g.s e w K p) → (∀ (A B : Prop), A → guardK g.g e A B) → YieldsAt P (fun w => isPure g.s = true ∨ Keep X w0 w) g e v := by
    intro v hv hg w hw K x r p hk
    rw [symOps_one]
    exact hg _ _ (hv w _ _ hw hk)
  rw [symOps_one] at h
  have cases2 : (wantedE g.g e ∧ (∀ A B : Prop, guardK g.g e A B = A)) ∨ (∀ A B : Prop, guardK g.g e A B = B) := by
    cases hg : g.g with
    | none => exact .inl ⟨trivial, fun _ _ => rfl⟩
    | some tw =>
      obtain ⟨t, b⟩ := tw
      simp only [wantedE, guardK, valK]
      cases he : e t with
      | bool c =>
        by_cases hc : c = b
        · exact .inl ⟨by rw [hc], fun A B => by simp [hc]⟩
        · exact .inr fun A B => by simp [hc]
      | _ => exact .inr fun _ _ => rfl
  rcases cases2 with ⟨hw, hA⟩ | hB
  · rw [hA] at h
    have hr := hro hw
    by_cases hp : isPure g.s = true
    · obtain ⟨v, h1, h2⟩ := pure_yields hp h
      exact ⟨v, h1, step v (fun w K p _ hk => h2 w K p hk) (fun A B a => by rw [hA]; exact a)⟩
    · have hs := hs.resolve_left hp
      have hcl : ∀ w, (isPure g.s = true ∨ Keep X w0 w) → Keep X w0 w := fun w h => h.resolve_left hp
      cases hgs : g.s <;> rw [hgs] at hs hr h <;> simp only [isRead] at hs <;> try (cases hs; done)
      case ld a =>
        have h' : symOp P (.ld a) e w0 (fun v _ => Z (updO e g.d v)) := h
        rw [O_ld] at h'
        simp only [readOK, ldX] at hr
        split at hr
        · rename_i ad had
          rw [had] at h'
          simp only [ldF] at h'
          cases hc : w0.cell? ad with
          | none => rw [hc] at h'; exact h'.elim
          | some v =>
            rw [hc] at h'
            have hst := step v (fun w K p hkeep hk => by
              rw [hgs]
              show symOp P (.ld a) e w K
              rw [O_ld, had]
              simp only [ldF, (hcl w hkeep).cell hc hr]
              exact hk) (fun A B a => by rw [hA]; exact a)
            exact ⟨v, h', by rw [← hgs]; exact hst⟩
        · exact hr.elim
      case lkp ik z a i ok =>
        have h' : symOp P (.lkp ik z a i ok) e w0 (fun v _ => Z (updO e g.d v)) := h
        rw [O_lkp] at h'
        have hsame : ∀ w, Keep X w0 w → ∀ v, lkpV w0 z ok (ev e a) (ev e i) = some v → lkpV w z ok (ev e a) (ev e i) = some v := by
          intro w hkeep v hv
          simp only [readOK, lkX] at hr
          split at hr
          · rename_i b hb
            rw [hb] at hv ⊢
            unfold lkpV at hv ⊢
            split at hv
            · rename_i rr kk nn hrr hkk
              cases hrr
              simp only at hv ⊢
              cases hheap : w0.heap[b]? with
              | none => simp [hheap] at hv
              | some o => rw [hkeep.heap hheap hr]; rw [hheap] at hv; exact hv
            · cases hv
          · rename_i hb
            rw [hb] at hv ⊢
            unfold lkpV at hv ⊢
            split at hv
            · rename_i rr kk nn hrr hkk
              cases hrr
              exact hv
            · cases hv
          · exact hr.elim
        cases hc : lkpV w0 z ok (ev e a) (ev e i) with
        | none => rw [hc] at h'; exact h'.elim
        | some v =>
          rw [hc] at h'
          have hst := step v (fun w K p hkeep hk => by
            rw [hgs]
            show symOp P (.lkp ik z a i ok) e w K
            rw [O_lkp, hsame w (hcl w hkeep) v hc]
            exact hk) (fun A B a => by rw [hA]; exact a)
          exact ⟨v, h', by rw [← hgs]; exact hst⟩
  · rw [hB] at h
    have hst : YieldsAt P (fun w => isPure g.s = true ∨ Keep X w0 w) g e undef := fun w _ K x r p hk => by
      rw [symOps_one, hB]
      exact hk
    exact ⟨undef, h, hst⟩

/-- Whatever order is picked from here on; behind each operation what is still read is as it was. -/
def anyS (P : Program) (ops : Array Oper) (X : Nat → Prop) (w0 : World) (k : Kont) : Nat → Array Bool → Env → World → Prop
  | 0, listed, e, w => Region.ready .any ops listed = [] ∧ k.n e w
  | f + 1, listed, e, w => (Region.ready .any ops listed = [] → k.n e w) ∧ ∀ i ∈ Region.ready .any ops listed, ∃ g, gopAt P ops i = some g ∧
      symOps P [g] ⟨fun e' w' => (isPure g.s = true ∨ finAt P ops i = true ∨ Keep X w0 w') ∧ anyS P ops X w0 k f (listed.setIfInBounds i true) e' w', k.x, k.r, k.p⟩ e w

def Closed (ops : Array Oper) (listed : Array Bool) : Prop := ∀ j i, listed.getD j false = true → directOn ops j i = true → listed.getD i false = true
theorem ready_direct {ops : Array Oper} {listed : Array Bool} {j : Nat} (h : j ∈ Region.ready .any ops listed) (i : Nat) (hd : directOn ops j i = true) : listed.getD i false = true := by
  obtain ⟨_, o, ho, hall⟩ := mem_ready.1 h
  simp only [directOn, ho] at hd
  obtain ⟨e, he, hb⟩ := Array.any_eq_true'.1 hd
  simp only [Bool.and_eq_true, beq_iff_eq] at hb
  exact hb.2 ▸ hall e he hb.1
theorem getD_set {listed : Array Bool} {i j : Nat} (h : (listed.setIfInBounds i true).getD j false = true) : listed.getD j false = true ∨ j = i := by
  by_cases hij : i = j
  · exact .inr hij.symm
  · rw [getD_set_ne false hij] at h; exact .inl h
theorem Closed.set {ops : Array Oper} {listed : Array Bool} (h : Closed ops listed) {i : Nat} (hi : i ∈ Region.ready .any ops listed) : Closed ops (listed.setIfInBounds i true) := by
  intro j t hj hd
  rcases getD_set hj with hj | rfl
  · exact getD_set_true (h j t hj hd)
  · exact getD_set_true (ready_direct hi t hd)
theorem reach_listed {ops : Array Oper} {listed : Array Bool} (hc : Closed ops listed) : ∀ (f j i : Nat), reach ops f j i = true → (∀ t, directOn ops j t = true → listed.getD t false = true) → listed.getD i false = true := by
  intro f
  induction f with
  | zero => intro j i h; simp [reach] at h
  | succ f ih =>
    intro j i h hj
    simp only [reach] at h
    cases ho : ops[j]? with
    | none => simp [ho] at h
    | some o =>
      simp only [ho] at h
      obtain ⟨e, he, hb⟩ := Array.any_eq_true'.1 h
      simp only [Bool.and_eq_true, Bool.or_eq_true, beq_iff_eq] at hb
      have hdir : directOn ops j e.on = true := by
        simp only [directOn, ho]
        exact Array.any_eq_true'.2 ⟨e, he, by simp [hb.1]⟩
      rcases hb.2 with hb2 | hb2
      · exact hb2 ▸ hj e.on hdir
      · exact ih e.on i hb2 (fun t ht => hc e.on t (hj e.on hdir) ht)
theorem listed_two {listed : Array Bool} {i : Nat} (h : listed.getD i true = false) : listed.getD i false = false := by
  rcases Nat.lt_or_ge i listed.size with h' | h'
  · simp [h'] at h ⊢; exact h
  · simp [Array.getElem?_eq_none h']

theorem not_fin {P : Program} {ops : Array Oper} {listed : Array Bool} (hc : Closed ops listed) {i j : Nat} (hi : i ∈ Region.ready .any ops listed) (he : earlyR P ops i = true) (hj : j ∈ Region.ready .any ops listed) (hne : j ≠ i) :
    finAt P ops j ≠ true := by
  intro hf
  obtain ⟨hun, o, ho, _⟩ := mem_ready.1 hi
  have hlt : i < ops.size := (Array.getElem?_eq_some_iff.1 ho).1
  have h1 := List.all_eq_true.1 hf i (List.mem_range.2 hlt)
  simp only [he, Bool.not_true, Bool.or_false, Bool.or_eq_true, beq_iff_eq] at h1
  rcases h1 with h1 | h1
  · exact hne h1.symm
  · have := reach_listed hc _ j i h1 (fun t ht => ready_direct hj t ht)
    rw [listed_two hun] at this
    cases this

/-- What only reckons or reads may be taken first. -/
theorem anyS_take {P : Program} {ops : Array Oper} {X : Nat → Prop} {w0 : World} {k : Kont} {i : Nat} {g : GOp} {v : Value} (hg : gopAt P ops i = some g) (he : isPure g.s = true ∨ earlyR P ops i = true) :
    ∀ (f : Nat) (listed : Array Bool) (e : Env) (w : World), Closed ops listed →
      (∀ j, j < ops.size → j ≠ i → listed.getD j true = false → directOn ops j i = false → ∃ y, gopAt P ops j = some y ∧ apart g y = true) →
      i ∈ Region.ready .any ops listed → YieldsAt P (fun w => isPure g.s = true ∨ Keep X w0 w) g e v → isPure g.s = true ∨ Keep X w0 w →
      anyS P ops X w0 k f (listed.setIfInBounds i true) (updO e g.d v) w → anyS P ops X w0 k (f + 1) listed e w := by
  intro f
  induction f with
  | zero =>
    intro listed e w hcl hfree hr hy hw H
    refine ⟨fun h => (by rw [h] at hr; cases hr), fun j hj => ?_⟩
    by_cases hji : j = i
    · subst hji; exact ⟨g, hg, hy w hw _ _ _ _ ⟨hw.imp id .inr, H⟩⟩
    · have := ready_mono hj hji
      rw [H.1] at this
      cases this
  | succ f ih =>
    intro listed e w hcl hfree hr hy hw H
    refine ⟨fun h => (by rw [h] at hr; cases hr), fun j hj => ?_⟩
    by_cases hji : j = i
    · subst hji; exact ⟨g, hg, hy w hw _ _ _ _ ⟨hw.imp id .inr, H⟩⟩
    · obtain ⟨y, hy1, hy2⟩ := H.2 j (ready_mono hj hji)
      refine ⟨y, hy1, ?_⟩
      obtain ⟨hun, oj, hoj, _⟩ := mem_ready.1 hj
      have hlt : j < ops.size := (Array.getElem?_eq_some_iff.1 hoj).1
      have hnd : directOn ops j i = false := by
        cases hd : directOn ops j i with
        | false => rfl
        | true =>
          have := ready_direct hj i hd
          rw [listed_two (mem_ready.1 hr).1] at this
          cases this
      obtain ⟨y', hy1', hap⟩ := hfree j hlt hji hun hnd
      rw [hy1] at hy1'
      cases hy1'
      obtain ⟨ha1, ha2⟩ := apart_spec hap
      refine symOps_mono1' (fun e' w' hk => ?_) (symOps_same (symOps_comm ha1 hy2))
      obtain ⟨hsame, ⟨u, rfl⟩, hfin, hrest⟩ := hk
      refine ⟨hfin, ?_⟩
      have hkeep : isPure g.s = true ∨ Keep X w0 w' := by
        rcases he with he | he
        · exact .inl he
        · rcases hfin with hp | hfin
          · rw [hsame hp]; exact hw
          · exact .inr (hfin.resolve_left (not_fin hcl hr he hj hji))
      refine ih (listed.setIfInBounds j true) _ w' (hcl.set hj) (fun t ht hti htu htd => ?_) (ready_mono hr (Ne.symm hji)) (hy.move ha2 ha1) hkeep ?_
      · refine hfree t ht hti ?_ htd
        by_cases hjt : j = t
        · subst hjt; exact hun
        · rw [getD_set_ne true hjt] at htu; exact htu
      · rw [Array.setIfInBounds_comm _ _ hji]; exact hrest

theorem takeable_spec {P : Program} {ops : Array Oper} {listed : Array Bool} {i : Nat} {g : GOp} (hg : gopAt P ops i = some g) (h : takeable P ops listed i = true) :
    (isPure g.s = true ∨ earlyR P ops i = true) ∧ (isPure g.s = true ∨ isRead g.s = true) ∧
    ∀ j, j < ops.size → j ≠ i → listed.getD j true = false → directOn ops j i = false → ∃ y, gopAt P ops j = some y ∧ apart g y = true := by
  simp only [takeable, Bool.and_eq_true] at h
  obtain ⟨h1, h2⟩ := h
  refine ⟨?_, ?_, fun j hj hne hun hd => ?_⟩
  · simp only [earlyAt, Bool.or_eq_true] at h1
    exact h1.imp (fun h => by simpa [pureAt, hg] using h) id
  · simp only [earlyAt, Bool.or_eq_true] at h1
    refine h1.imp (fun h => by simpa [pureAt, hg] using h) (fun h => ?_)
    simp only [earlyR, Bool.and_eq_true] at h
    simpa [readAt, hg] using h.1
  · have h3 := List.all_eq_true.1 h2 j (List.mem_range.2 hj)
    simp only [hun, hd, Bool.or_false, Bool.or_eq_true, beq_iff_eq] at h3
    rcases h3 with h3 | h3
    · exact absurd h3 hne
    · simp only [hg] at h3
      cases hgj : gopAt P ops j with
      | none => simp [hgj] at h3
      | some y => simp only [hgj] at h3; exact ⟨y, rfl, h3⟩

theorem planS_sound {P : Program} {ops : Array Oper} {X : Nat → Prop} {w0 : World} {k : Kont} : ∀ (f : Nat) (listed : Array Bool) (e : Env) (w : World), Closed ops listed →
    (Keep X w0 w ∨ ∀ i, i ∈ Region.ready .any ops listed → earlyR P ops i = false ) →
    (Keep X w0 w ∨ ∀ i, i < ops.size → earlyR P ops i = true → listed.getD i false = true) →
    planS P X w0 k (mkPlan P ops f listed) e w → anyS P ops X w0 k f listed e w := by
  intro f
  induction f with
  | zero =>
    intro listed e w hcl _ hinv h
    simp only [mkPlan] at h
    split at h
    · rename_i hr; exact ⟨by simpa using hr, h⟩
    · exact h.elim
  | succ f ih =>
    intro listed e w hcl _ hinv h
    have inv2 : ∀ (listed : Array Bool) (w : World), (Keep X w0 w ∨ ∀ i, i < ops.size → earlyR P ops i = true → listed.getD i false = true) →
        (Keep X w0 w ∨ ∀ i, i ∈ Region.ready .any ops listed → earlyR P ops i = false) := by
      intro listed w h
      refine h.imp id (fun h i hi => ?_)
      cases he : earlyR P ops i with
      | false => rfl
      | true =>
        obtain ⟨hun, o, ho, _⟩ := mem_ready.1 hi
        have := h i (Array.getElem?_eq_some_iff.1 ho).1 he
        rw [listed_two hun] at this
        cases this
    simp only [mkPlan] at h
    split at h
    · rename_i hr
      exact ⟨fun _ => h, by rw [hr]; simp⟩
    · rename_i r rs hr
      split at h
      · rename_i i hfind
        split at h
        · rename_i g hg
          have hmem : i ∈ Region.ready .any ops listed := by rw [hr]; exact List.mem_of_find?_eq_some hfind
          have htk := List.find?_some hfind
          obtain ⟨ht1, ht2, ht3⟩ := takeable_spec hg htk
          obtain ⟨hro, hop⟩ := h
          obtain ⟨v, hz, hy⟩ := early_yields ht2 hro hop
          have hk : isPure g.s = true ∨ Keep X w0 w := by
            rcases ht1 with ht1 | ht1
            · exact .inl ht1
            · rcases inv2 listed w hinv with h1 | h1
              · exact .inr h1
              · have := h1 i hmem; rw [ht1] at this; cases this
          refine anyS_take hg ht1 f listed e w hcl ht3 hmem hy hk ?_
          have hinv' : Keep X w0 w ∨ ∀ t, t < ops.size → earlyR P ops t = true → (listed.setIfInBounds i true).getD t false = true := hinv.imp id (fun h t ht he => getD_set_true (h t ht he))
          exact ih _ _ w (hcl.set hmem) (inv2 _ w hinv') hinv' hz
        · exact h.elim
      · refine ⟨fun h0 => (by rw [hr] at h0; cases h0), ?_⟩
        rw [hr]
        have key : ∀ (l : List Nat), (∀ i ∈ l, i ∈ Region.ready .any ops listed) → planS P X w0 k (mkAlts P ops (fun i => mkPlan P ops f (listed.setIfInBounds i true)) l) e w → ∀ i ∈ l, ∃ g, gopAt P ops i = some g ∧
            symOps P [g] ⟨fun e' w' => (isPure g.s = true ∨ finAt P ops i = true ∨ Keep X w0 w') ∧ anyS P ops X w0 k f (listed.setIfInBounds i true) e' w', k.x, k.r, k.p⟩ e w := by
          intro l
          induction l with
          | nil => intro _ _ i hi; cases hi
          | cons j l ihl =>
            intro hl hp i hi
            simp only [mkAlts] at hp
            split at hp
            · rename_i g hg
              obtain ⟨h1, h2⟩ := hp
              rcases List.mem_cons.1 hi with rfl | hi
              · refine ⟨g, hg, symOps_mono1' (fun e' w' hk => ⟨.inr hk.1, ?_⟩) h1⟩
                have hinv' : Keep X w0 w' ∨ ∀ t, t < ops.size → earlyR P ops t = true → (listed.setIfInBounds i true).getD t false = true := by
                  rcases hk.1 with hf | hf
                  · right
                    intro t ht he
                    have h3 := List.all_eq_true.1 hf t (List.mem_range.2 ht)
                    simp only [he, Bool.not_true, Bool.or_false, Bool.or_eq_true, beq_iff_eq] at h3
                    have hri := hl i (by simp)
                    rcases h3 with h3 | h3
                    · subst h3
                      have hlt : t < (listed).size := by
                        have hun := (mem_ready.1 hri).1
                        rcases Nat.lt_or_ge t listed.size with h' | h'
                        · exact h'
                        · simp [Array.getElem?_eq_none h'] at hun
                      simp [hlt]
                    · exact getD_set_true (reach_listed hcl _ i t h3 (fun s hs => ready_direct hri s hs))
                  · exact .inl hf
                exact ih _ _ w' (hcl.set (hl i (by simp))) (inv2 _ w' hinv') hinv' hk.2
              · exact ihl (fun t ht => hl t (by simp [ht])) h2 i hi
            · exact hp.elim
        exact key (r :: rs) (fun i hi => by rw [hr]; exact hi) h

theorem wpOp_of_one {n : Nat} {P : Program} {ops : Array Oper} {k : Kont} {i : Nat} {g : GOp} {K : Env → World → Prop} {K' : Act → World → Prop} {a : Act} {e : Env} {w : World} (hg : gopAt P ops i = some g)
    (hf : fitsOps n ops.toList = true) (h : Rel n a e) (hs : symOps P [g] ⟨K, k.x, k.r, k.p⟩ e w) (hK : ∀ a e w, Rel n a e → K e w → K' a w) : wpOp P ops (lift n k) i K' a w := by
  unfold gopAt at hg
  cases ho : ops[i]? with
  | none => simp [ho] at hg
  | some o =>
    simp only [ho] at hg
    cases hgd : guardOf ops o.guard with
    | none => simp [hgd] at hg
    | some gd =>
      simp only [hgd, Option.some.injEq] at hg
      subst hg
      have hto : toOps P ops [o] = some [⟨o.dst, toOp P o, gd⟩] := by simp [toOps, hgd]
      have hfo : fitsOps n [o] = true := by
        have hm : o ∈ ops.toList := by simpa using Array.mem_of_getElem? ho
        simp only [fitsOps, List.all_eq_true] at hf ⊢
        intro x hx
        simp at hx; subst hx
        exact hf _ hm
      have hw := symOps_sound (k := ⟨K, k.x, k.r, k.p⟩) [o] _ hto hfo a e w h hs
      unfold wpOp
      simp only [ho]
      unfold wpList at hw
      have conv : o.wp P a w (wpList P ops (lift n ⟨K, k.x, k.r, k.p⟩) []) (lift n ⟨K, k.x, k.r, k.p⟩) ∨ (o.asks P a w ∧ LetsOut (lift n ⟨K, k.x, k.r, k.p⟩)) → o.wp P a w K' (lift n k) ∨ (o.asks P a w ∧ LetsOut (lift n k)) := by
        intro h1
        rcases h1 with h1 | h1
        · left
          unfold Oper.wp at h1 ⊢
          generalize (execOp a.eval o).run P w = r at *
          cases r with
          | ok x w' =>
            cases x <;> simp only [Oper.upon] at h1 ⊢
            case value v => obtain ⟨e', h2, h3⟩ := h1; exact hK _ _ _ h2 h3
            case skip => obtain ⟨e', h2, h3⟩ := h1; exact hK _ _ _ h2 h3
            case defer d => obtain ⟨e', h2, h3⟩ := h1; exact hK _ _ _ h2 h3
            case enter f args =>
              refine Calls.mono h1 fun en w'' he => ?_
              cases en with
              | returned v => obtain ⟨e', h2, h3⟩ := he; exact hK _ _ _ h2 h3
              | panicked c => exact he
              | outgrown => obtain ⟨_, _, hf⟩ := he; exact (hf : False).elim
            case row row args => exact Rows.mono h1 fun v w'' he => by obtain ⟨e', h2, h3⟩ := he; exact hK _ _ _ h2 h3
          | halt x w' => cases x <;> simp only [Oper.upon] at h1 ⊢; exact h1
        · obtain ⟨_, _, _, hf⟩ := h1; exact (hf : False).elim
      split at hw
      · rename_i hwt; rw [if_pos hwt]; exact conv hw
      · rename_i hwt; rw [if_neg hwt]
        obtain ⟨e', h2, h3⟩ := hw
        exact hK _ _ _ h2 h3

theorem anyS_wp {n : Nat} {P : Program} {ops : Array Oper} {X : Nat → Prop} {w0 : World} {k : Kont} (hf : fitsOps n ops.toList = true) : ∀ (f : Nat) (listed : Array Bool) (a : Act) (e : Env) (w : World), Rel n a e →
    anyS P ops X w0 k f listed e w → wpAny P .any ops (lift n k) f listed a w := by
  intro f
  induction f with
  | zero => intro listed a e w h hs; exact ⟨hs.1, e, h, hs.2⟩
  | succ f ih =>
    intro listed a e w h hs
    refine ⟨fun hr => ⟨e, h, hs.1 hr⟩, fun i hi => ?_⟩
    obtain ⟨g, hg, hs2⟩ := hs.2 i hi
    exact wpOp_of_one hg hf h hs2 (fun a e w hr hk => ih _ a e w hr hk.2)

/-- A region that draws its order, by its plan. -/
theorem draw_rule {n : Nat} {P : Program} {c : Code} {pl : Plan} {k : Kont} {e : Env} {w : World} (X : Nat → Prop) (hm : P.follows .mixedOrders = true) (hf : fits n c = true) (hpl : planOf P c = pl)
    (h : R (planS P X w.drew k pl e w.drew)) : R (symS n P (.raw c) k e w) := by
  intro a hr
  unfold planOf at hpl
  split at hpl
  · rename_i id ops
    refine wp_region_any hm (anyS_wp hf _ _ a e _ hr (planS_sound _ _ e _ ?_ (.inl (Keep.refl _ _)) (.inl (Keep.refl _ _)) (hpl ▸ h)))
    intro j i hj
    rw [Array.getD_eq_getD_getElem?, Array.getElem?_replicate] at hj
    split at hj <;> simp at hj
  · subst hpl; exact h.elim

section
variable {P : Program} {X : Nat → Prop} {w0 w : World} {k : Kont} {e : Env} {g : GOp} {p q : Plan} {A : Prop}
theorem drew_cell {a : Addr} : w.drew.cell? a = w.cell? a := rfl
theorem drew_heap : w.drew.heap = w.heap := rfl
theorem drew_frozen {a : Addr} : w.drew.frozen? a = w.frozen? a := rfl
theorem drew_lkp {z : Value} {ok : Bool} {u v : Value} : lkpV w.drew z ok u v = lkpV w z ok u v := rfl
theorem P_done : R (planS P X w0 k .done e w) = R (k.n e w) := propext ⟨fun h => h, fun h => h⟩
theorem P_stop : R (planS P X w0 k .stop e w) = True := propext ⟨fun _ => trivial, fun _ => trivial⟩
theorem P_take : R (planS P X w0 k (.take g p) e w) = ((wantedE g.g e → readOK X g.s e) ∧ R (symOps P [g] ⟨fun e' _ => planS P X w0 k p e' w, k.x, k.r, fun _ _ => False⟩ e w0)) := propext ⟨fun h => h, fun h => h⟩
theorem P_alt {fin : Bool} : R (planS P X w0 k (.alt fin g p q) e w) = (R (symOps P [g] ⟨fun e' w' => (fin = true ∨ Keep X w0 w') ∧ planS P X w0 k p e' w', k.x, k.r, k.p⟩ e w) ∧ R (planS P X w0 k q e w)) := propext ⟨fun h => h, fun h => h⟩
theorem P_and : R (A ∧ planS P X w0 k p e w) = (A ∧ R (planS P X w0 k p e w)) := propext ⟨fun h => h, fun h => h⟩
theorem wanted_none : wantedE none e = True := rfl
theorem wanted_some {t : Nat} {b : Bool} : wantedE (some (t, b)) e = (e t = .bool b) := rfl
theorem ldX_p {a : Addr} : ldX X (.pointer (some a)) = ¬ X a.block := rfl
theorem lkX_m {r : Nat} : lkX X (.map (some r)) = ¬ X r := rfl
theorem lkX_n : lkX X (.map none) = True := rfl
end
end Go.Proofs.YtienelpepioggaaGreat
