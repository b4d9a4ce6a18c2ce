/- Regions that draw their order: a plan, reckoned out of the region's edges; what only reckons or reads what stays is taken first. -/
import Derived.Test.YtneehlkofcdhoaaHeap
namespace Go.Proofs.Ytneehlkofcdhoaa
open Go

def gopAt (P : Program) (ops : Array Oper) (i : Nat) : Option GOp :=
  match ops[i]? with
  | some o => match guardOf ops o.guard with
    | some g => some ⟨o.dst, toOp P o, g⟩
    | none => none
  | none => none

/-- The operands of an operation; none: it is not looked into. -/
def opsOf : SOp → Option (List Operand)
  | .mv x => some [x]
  | .pick c x y => some [c, x, y]
  | .ld x => some [x]
  | .ldn _ x => some [x]
  | .st x y => some [x, y]
  | .stn _ x y => some [x, y]
  | .nilc x => some [x]
  | .bin _ x y => some [x, y]
  | .beq _ x y => some [x, y]
  | .eqn _ _ x => some [x]
  | .un _ x => some [x]
  | .fa _ x => some [x]
  | .fld _ _ _ x => some [x]
  | .ia _ x i => some [x, i]
  | .iaa _ _ x i => some [x, i]
  | .idx _ _ _ x i => some [x, i]
  | .sidx x i => some [x, i]
  | .ext x _ => some [x]
  | .box _ x => some [x]
  | .alloc _ _ => some []
  | .bld _ ps => some (ps.map (·.2.2))
  | .bsl _ _ _ ps => some (ps.map (·.2.2))
  | .mkmap => some []
  | .mkif _ x => some [x]
  | .mkfn _ a b => some (a ++ b)
  | .len _ x => some [x]
  | .slc _ x lo hi mx => some (x :: (lo.toList ++ hi.toList ++ mx.toList))
  | .slca _ _ x lo hi mx => some (x :: (lo.toList ++ hi.toList ++ mx.toList))
  | .lkp _ _ x i _ => some [x, i]
  | .conv _ x => some [x]
  | .ta _ _ x _ => some [x]
  | .call _ args => some args
  | .hard o => match o.op with | .select .. => none | op => some op.operands.toList
def slotsOf (g : GOp) : Option (List Nat) :=
  (opsOf g.s).map fun l => (l.filterMap fun | .tmp t => some t | _ => none) ++ (match g.g with | some (t, _) => [t] | none => [])

/-- It only reckons. -/
def isPure : SOp → Bool
  | .mv _ | .pick .. | .nilc _ | .bin .. | .beq .. | .eqn .. | .un .. | .fa .. | .fld .. | .ia .. | .iaa .. | .idx .. | .sidx .. | .ext .. | .bld .. | .mkif .. | .mkfn .. | .slc .. | .slca .. | .conv .. | .ta .. => true
  | .len k _ => k != 2
  | _ => false
def isRead : SOp → Bool
  | .ld _ => true
  | .lkp .. => true
  | _ => false

/-- Neither looks at what the other writes. -/
def apart (x y : GOp) : Bool :=
  match slotsOf x, slotsOf y with
  | some a, some b =>
    (match x.d with | some d => !b.contains d && y.d != some d | none => true) && (match y.d with | some d => !a.contains d | none => true)
  | _, _ => false

def directOn (ops : Array Oper) (j i : Nat) : Bool := match ops[j]? with | some o => o.after.any fun e => Region.binds .any e && e.on == i | none => false
def reach (ops : Array Oper) : Nat → Nat → Nat → Bool
  | 0, _, _ => false
  | f + 1, j, i => match ops[j]? with
    | some o => o.after.any fun e => Region.binds .any e && (e.on == i || reach ops f e.on i)
    | none => false
def pureAt (P : Program) (ops : Array Oper) (i : Nat) : Bool := match gopAt P ops i with | some g => isPure g.s | none => false
def readAt (P : Program) (ops : Array Oper) (i : Nat) : Bool := match gopAt P ops i with | some g => isRead g.s | none => false
/-- A read that waits for nothing but what reckons and reads. -/
def earlyR (P : Program) (ops : Array Oper) (i : Nat) : Bool := readAt P ops i && (List.range ops.size).all fun t => pureAt P ops t || readAt P ops t || !reach ops ops.size i t
def earlyAt (P : Program) (ops : Array Oper) (i : Nat) : Bool := pureAt P ops i || earlyR P ops i
/-- Behind it nothing that is read early is still to come. -/
def finAt (P : Program) (ops : Array Oper) (j : Nat) : Bool := (List.range ops.size).all fun i => i == j || !earlyR P ops i || reach ops ops.size j i
def takeable (P : Program) (ops : Array Oper) (listed : Array Bool) (i : Nat) : Bool :=
  earlyAt P ops i && (List.range ops.size).all fun j => j == i || listed.getD j true || directOn ops j i ||
    match gopAt P ops i, gopAt P ops j with | some x, some y => apart x y | _, _ => false

inductive Plan where
  | done
  | bad
  | stop
  | take (g : GOp) (p : Plan)
  | alt (fin : Bool) (g : GOp) (p rest : Plan)

def mkAlts (P : Program) (ops : Array Oper) (f : Nat → Plan) : List Nat → Plan
  | [] => .stop
  | i :: l => match gopAt P ops i with
    | some g => .alt (finAt P ops i) g (f i) (mkAlts P ops f l)
    | none => .bad
def mkPlan (P : Program) (ops : Array Oper) : Nat → Array Bool → Plan
  | 0, listed => if (Region.ready .any ops listed).isEmpty then .done else .bad
  | f + 1, listed =>
    match Region.ready .any ops listed with
    | [] => .done
    | r :: rs => match (r :: rs).find? (takeable P ops listed) with
      | some i => match gopAt P ops i with
        | some g => .take g (mkPlan P ops f (listed.setIfInBounds i true))
        | none => .bad
      | none => mkAlts P ops (fun i => mkPlan P ops f (listed.setIfInBounds i true)) (r :: rs)
def planOf (P : Program) : Code → Plan
  | .region _ ops true => mkPlan P ops ops.size (Array.replicate ops.size false)
  | _ => .bad

/-- A cell, a map that is read is none of those that may change. -/
def ldX (X : Nat → Prop) (v : Value) : Prop := match v with | .pointer (some a) => ¬ X a.block | _ => False
def lkX (X : Nat → Prop) (v : Value) : Prop := match v with | .map (some r) => ¬ X r | .map none => True | _ => False
def readOK (X : Nat → Prop) (s : SOp) (e : Env) : Prop :=
  match s with
  | .ld x => ldX X (ev e x)
  | .lkp _ _ x _ _ => lkX X (ev e x)
  | _ => True

def wantedE (g : Option (Nat × Bool)) (e : Env) : Prop := match g with | none => True | some (t, want) => e t = .bool want

def planS (P : Program) (X : Nat → Prop) (w0 : World) (k : Kont) : Plan → Env → World → Prop
  | .done, e, w => k.n e w
  | .bad, _, _ => False
  | .stop, _, _ => True
  | .take g p, e, w => (wantedE g.g e → readOK X g.s e) ∧ symOps P [g] ⟨fun e' _ => planS P X w0 k p e' w, k.x, k.r, fun _ _ => False⟩ e w0
  | .alt fin g p rest, e, w => symOps P [g] ⟨fun e' w' => (fin = true ∨ Keep X w0 w') ∧ planS P X w0 k p e' w', k.x, k.r, k.p⟩ e w ∧ planS P X w0 k rest e w

theorem v1_mono {o : Option Value} {K K' : Value → World → Prop} {w : World} (hm : ∀ v w, K v w → K' v w) (h : v1 o K w) : v1 o K' w := by
  cases o with
  | none => exact h
  | some v => exact hm _ _ h
theorem v2_mono {o : Option (Value × World)} {K K' : Value → World → Prop} (hm : ∀ v w, K v w → K' v w) (h : v2 o K) : v2 o K' := by
  cases o with
  | none => exact h
  | some v => exact hm _ _ h
theorem symOp_mono {P : Program} {s : SOp} {K K' : Value → World → Prop} {e : Env} {w : World} (hm : ∀ v w, K v w → K' v w) (h : symOp P s e w K) : symOp P s e w K' := by
  cases s
  case mv => rw [O_mv] at h ⊢; exact v1_mono hm h
  case pick => rw [O_pick] at h ⊢; exact v1_mono hm h
  case ld => rw [O_ld] at h ⊢; exact v1_mono hm h
  case ldn => rw [O_ldn] at h ⊢; exact v1_mono hm h
  case st => rw [O_st] at h ⊢; exact v2_mono hm h
  case stn => rw [O_stn] at h ⊢; exact v2_mono hm h
  case nilc => rw [O_nilc] at h ⊢; exact v1_mono hm h
  case bin => rw [O_bin] at h ⊢; exact v1_mono hm h
  case beq => rw [O_beq] at h ⊢; exact v1_mono hm h
  case eqn => rw [O_eqn] at h ⊢; exact v1_mono hm h
  case un => rw [O_un] at h ⊢; exact v1_mono hm h
  case fa => rw [O_fa] at h ⊢; exact v1_mono hm h
  case fld => rw [O_fld] at h ⊢; exact v1_mono hm h
  case ia => rw [O_ia] at h ⊢; exact v1_mono hm h
  case iaa => rw [O_iaa] at h ⊢; exact v1_mono hm h
  case idx => rw [O_idx] at h ⊢; exact v1_mono hm h
  case sidx => rw [O_sidx] at h ⊢; exact v1_mono hm h
  case ext => rw [O_ext] at h ⊢; exact v1_mono hm h
  case box => rw [O_box] at h ⊢; exact v2_mono hm h
  case alloc => rw [O_alloc] at h ⊢; exact v2_mono hm h
  case bld => rw [O_bld] at h ⊢; exact v1_mono hm h
  case bsl => rw [O_bsl] at h ⊢; exact v2_mono hm h
  case mkmap => rw [O_mkmap] at h ⊢; exact v2_mono hm h
  case mkif => rw [O_mkif] at h ⊢; exact v1_mono hm h
  case mkfn => rw [O_mkfn] at h ⊢; exact v1_mono hm h
  case len => rw [O_len] at h ⊢; exact v1_mono hm h
  case slc => rw [O_slc] at h ⊢; exact v1_mono hm h
  case slca => rw [O_slca] at h ⊢; exact v1_mono hm h
  case lkp => rw [O_lkp] at h ⊢; exact v1_mono hm h
  case conv => rw [O_conv] at h ⊢; exact v1_mono hm h
  case ta => rw [O_ta] at h ⊢; exact v1_mono hm h
  case call => exact h
  case hard => exact h

theorem hardOp_mono {P : Program} {o : Oper} {K K' : Value → World → Prop} {p : List PanicEntry → World → Prop} {e : Env} {w : World} (hm : ∀ v w, K v w → K' v w) (h : hardOp P o K p e w) : hardOp P o K' p e w := by
  rcases h with h | h
  · left
    generalize (execOp (ev e) o).run P w = r at *
    cases r with
    | ok x w' =>
      cases x <;> simp only [hardK] at h ⊢
      case value v => exact hm _ _ h
      case skip => exact hm _ _ h
      case enter f args =>
        refine Calls.mono h fun en w'' he => ?_
        cases en with
        | returned v => exact hm _ _ he
        | panicked c => exact he
        | outgrown => exact he
    | halt x w' => cases x <;> simp only [hardK] at h ⊢; exact h
  · exact .inr h

/-- One operation, whatever it is. -/
def oneS (P : Program) (s : SOp) (e : Env) (w : World) (K : Value → World → Prop) (p : List PanicEntry → World → Prop) : Prop :=
  match s with
  | .hard o => hardOp P o K p e w
  | .call f args => Calls P f (args.map (ev e)).toArray w (Out K p)
  | s => symOp P s e w K
theorem oneS_mono {P : Program} {s : SOp} {K K' : Value → World → Prop} {p : List PanicEntry → World → Prop} {e : Env} {w : World} (hm : ∀ v w, K v w → K' v w) (h : oneS P s e w K p) : oneS P s e w K' p := by
  cases s
  case hard o => exact hardOp_mono hm h
  case call f args =>
    refine Calls.mono h fun en w'' he => ?_
    cases en with
    | returned v => exact hm _ _ he
    | panicked c => exact he
    | outgrown => exact he
  all_goals (simp only [oneS] at h ⊢; exact symOp_mono hm h)
theorem symOps_one {P : Program} {g : GOp} {k : Kont} {e : Env} {w : World} :
    symOps P [g] k e w = guardK g.g e (oneS P g.s e w (fun v w' => k.n (updO e g.d v) w') k.p) (k.n (updO e g.d undef) w) := by
  obtain ⟨d, s, g⟩ := g
  cases s <;> rfl

theorem fillV_congr {e e' : Env} : ∀ (l : List (Nat × Nat × Operand)) (z : Array Value), (∀ x ∈ l.map (·.2.2), ev e x = ev e' x) → fillV e z l = fillV e' z l := by
  intro l
  induction l with
  | nil => intro z _; rfl
  | cons p l ih =>
    intro z h
    obtain ⟨a, b, x⟩ := p
    have hx : ev e x = ev e' x := h x (by simp)
    have hl := fun z => ih z (fun y hy => h y (by simp at hy ⊢; exact .inr hy))
    simp only [fillV, hx, hl]

theorem oneS_congr {P : Program} {s : SOp} {l : List Operand} (hs : opsOf s = some l) {K : Value → World → Prop} {p : List PanicEntry → World → Prop} {e e' : Env} {w : World} (he : ∀ x ∈ l, ev e x = ev e' x) :
    oneS P s e w K p = oneS P s e' w K p := by
  have hm : ∀ (as : List Operand), (∀ x ∈ as, x ∈ l) → as.map (ev e) = as.map (ev e') := fun as ha => List.map_congr_left fun x hx => he x (ha x hx)
  have ho : ∀ (o : Option Operand), (∀ x ∈ o.toList, x ∈ l) → o.map (ev e) = o.map (ev e') := fun o ha => by
    cases o with
    | none => rfl
    | some x => simp [he x (ha x (by simp))]
  cases s
  case hard o =>
    have hex : execOp (ev e) o = execOp (ev e') o := by
      simp only [opsOf] at hs
      split at hs
      · cases hs
      · rename_i hsel
        simp at hs; subst hs
        exact execOp_congr o (fun cs b h => hsel cs b h) (fun x hx => he x (by simpa using hx))
    simp only [oneS, hardOp, asksE, hex]
  all_goals simp only [opsOf, Option.some.injEq] at hs
  case call f args => subst hs; simp only [oneS, hm args (fun x h => h)]
  case bld z ps => subst hs; simp only [oneS, symOp, fillV_congr ps z he]
  case bsl t z n ps => subst hs; simp only [oneS, symOp, fillV_congr ps z he]
  case mkfn fn a b => subst hs; simp only [oneS, symOp, hm a (fun x h => by simp [h]), hm b (fun x h => by simp [h])]
  case slc size x lo hi mx =>
    subst hs
    simp only [oneS, symOp, he x (by simp), ho lo (fun x h => by simp at h ⊢; simp [h]), ho hi (fun x h => by simp at h ⊢; simp [h]), ho mx (fun x h => by simp at h ⊢; simp [h])]
  case slca m size x lo hi mx =>
    subst hs
    simp only [oneS, symOp, he x (by simp), ho lo (fun x h => by simp at h ⊢; simp [h]), ho hi (fun x h => by simp at h ⊢; simp [h]), ho mx (fun x h => by simp at h ⊢; simp [h])]
  all_goals (subst hs; simp at he; simp only [oneS, symOp, he])

theorem updO_comm {e : Env} {a b : Option Nat} {u v : Value} (h : ∀ t, a = some t → b ≠ some t) : updO (updO e a u) b v = updO (updO e b v) a u := by
  cases a with
  | none => rfl
  | some s =>
    cases b with
    | none => rfl
    | some t =>
      have hne : s ≠ t := fun he => h s rfl (by rw [he])
      funext x
      simp only [updO, upd]
      by_cases h1 : x = t
      · have : ¬ x = s := by omega
        simp [h1]; intro h2; omega
      · simp [h1]
theorem ev_updO {e : Env} {d : Option Nat} {v : Value} {x : Operand} (h : ∀ t, d = some t → x ≠ .tmp t) : ev (updO e d v) x = ev e x := by
  cases d with
  | none => rfl
  | some t =>
    cases x with
    | tmp s =>
      have hne : s ≠ t := fun he => h t rfl (by rw [he])
      simp [updO, ev, upd, hne]
    | _ => rfl
theorem updO_at {e : Env} {d : Option Nat} {v : Value} {t : Nat} (h : d ≠ some t) : updO e d v t = e t := by
  cases d with
  | none => rfl
  | some s =>
    have hne : t ≠ s := fun he => h (by rw [he])
    simp [updO, upd, hne]

structure Apart (x y : GOp) : Prop where
  s : ∃ l, opsOf y.s = some l ∧ ∀ d, x.d = some d → .tmp d ∉ l
  g : ∀ d, x.d = some d → ∀ b, y.g ≠ some (d, b)
  d : ∀ d, x.d = some d → y.d ≠ some d
theorem apart_spec {x y : GOp} (h : apart x y = true) : Apart x y ∧ Apart y x := by
  unfold apart slotsOf at h
  cases hx : opsOf x.s with
  | none => simp [hx] at h
  | some lx =>
    cases hy : opsOf y.s with
    | none => simp [hx, hy] at h
    | some ly =>
      simp only [hx, hy, Option.map_some, Bool.and_eq_true] at h
      obtain ⟨h1, h2⟩ := h
      constructor
      · refine ⟨⟨ly, hy, fun d hd hm => ?_⟩, fun d hd b hb => ?_, fun d hd he => ?_⟩
        · simp only [hd, Bool.and_eq_true, Bool.not_eq_true'] at h1
          have := h1.1
          simp at this
          exact this.1 _ hm rfl
        · simp only [hd, Bool.and_eq_true, Bool.not_eq_true'] at h1
          have := h1.1
          simp [hb] at this
        · simp only [hd, Bool.and_eq_true] at h1
          simp [he] at h1
      · refine ⟨⟨lx, hx, fun d hd hm => ?_⟩, fun d hd b hb => ?_, fun d hd he => ?_⟩
        · simp only [hd, Bool.not_eq_true'] at h2
          simp at h2
          exact h2.1 _ hm rfl
        · simp only [hd, Bool.not_eq_true'] at h2
          simp [hb] at h2
        · cases hxd : x.d with
          | none => rw [hxd] at he; cases he
          | some t =>
            rw [hxd] at he
            cases he
            simp only [hxd, Bool.and_eq_true] at h1
            simp [hd] at h1
theorem Apart.ops {x y : GOp} (h : Apart x y) {P : Program} {e : Env} {w : World} {v : Value} {K : Value → World → Prop} {p : List PanicEntry → World → Prop} : oneS P y.s (updO e x.d v) w K p = oneS P y.s e w K p := by
  obtain ⟨l, hl, hn⟩ := h.s
  exact oneS_congr hl fun z hz => ev_updO fun t ht he => hn t ht (he ▸ hz)
theorem Apart.guard {x y : GOp} (h : Apart x y) {e : Env} {v : Value} {A B : Prop} : guardK y.g (updO e x.d v) A B = guardK y.g e A B := by
  cases hg : y.g with
  | none => rfl
  | some tw =>
    obtain ⟨t, b⟩ := tw
    simp only [guardK, updO_at (e := e) (v := v) (fun hd => h.g t hd b hg)]
theorem guardK_mono {g : Option (Nat × Bool)} {e : Env} {A B A' B' : Prop} (ha : A → A') (hb : B → B') (h : guardK g e A B) : guardK g e A' B' := by
  cases g with
  | none => exact ha h
  | some tw =>
    obtain ⟨t, b⟩ := tw
    simp only [guardK, valK] at h ⊢
    split at h
    · rename_i c hc
      split at h
      · rename_i hcb; rw [if_pos hcb]; exact ha h
      · rename_i hcb; rw [if_neg hcb]; exact hb h
    · exact hb h
theorem symOps_mono1 {P : Program} {g : GOp} {K K' : Env → World → Prop} {x r : _} {p : List PanicEntry → World → Prop} {e : Env} {w : World} (hm : ∀ v w, K (updO e g.d v) w → K' (updO e g.d v) w)
    (h : symOps P [g] ⟨K, x, r, p⟩ e w) : symOps P [g] ⟨K', x, r, p⟩ e w := by
  rw [symOps_one] at h ⊢
  exact guardK_mono (oneS_mono fun v w' hk => hm v w' hk) (hm _ _) h
theorem symOps_mono1' {P : Program} {g : GOp} {K K' : Env → World → Prop} {x r : _} {p : List PanicEntry → World → Prop} {e : Env} {w : World} (hm : ∀ e w, K e w → K' e w)
    (h : symOps P [g] ⟨K, x, r, p⟩ e w) : symOps P [g] ⟨K', x, r, p⟩ e w := by
  rw [symOps_one] at h ⊢
  exact guardK_mono (oneS_mono fun v w' hk => hm _ w' hk) (hm _ _) h
/-- Moved ahead of another operation. -/
theorem symOps_comm {P : Program} {x y : GOp} (hap : Apart x y) {K : Env → World → Prop} {x' r : _} {p : List PanicEntry → World → Prop} {e : Env} {w : World} {v : Value}
    (h : symOps P [y] ⟨K, x', r, p⟩ (updO e x.d v) w) : symOps P [y] ⟨fun e' w' => (∃ u, e' = updO e y.d u) ∧ K (updO e' x.d v) w', x', r, p⟩ e w := by
  rw [symOps_one] at h ⊢
  rw [hap.guard, hap.ops] at h
  refine guardK_mono (oneS_mono fun u w' hk => ⟨⟨u, rfl⟩, ?_⟩) (fun hk => ⟨⟨undef, rfl⟩, ?_⟩) h
  · rw [updO_comm hap.d] at hk; exact hk
  · rw [updO_comm hap.d] at hk; exact hk

theorem pure_yields {P : Program} {s : SOp} (hs : isPure s = true) {e : Env} {w0 : World} {K0 : Value → World → Prop} {p : List PanicEntry → World → Prop} (h : oneS P s e w0 K0 p) :
    ∃ v, K0 v w0 ∧ ∀ w K p, K v w → oneS P s e w K p := by
  have key : ∀ (o : Option Value), (∀ w K p, oneS P s e w K p = v1 o K w) → ∃ v, K0 v w0 ∧ ∀ w K p, K v w → oneS P s e w K p := by
    intro o hall
    have ho := h
    rw [hall] at ho
    cases o with
    | none => exact ho.elim
    | some v => exact ⟨v, ho, fun w K p hk => by rw [hall]; exact hk⟩
  cases s <;> simp only [isPure, Bool.false_eq_true] at hs
  case mv => exact key _ (fun w K p => O_mv (P := P))
  case pick => exact key _ (fun w K p => O_pick (P := P))
  case nilc => exact key _ (fun w K p => O_nilc (P := P))
  case bin => exact key _ (fun w K p => O_bin (P := P))
  case beq => exact key _ (fun w K p => O_beq (P := P))
  case eqn => exact key _ (fun w K p => O_eqn (P := P))
  case un => exact key _ (fun w K p => O_un (P := P))
  case fa => exact key _ (fun w K p => O_fa (P := P))
  case fld => exact key _ (fun w K p => O_fld (P := P))
  case ia => exact key _ (fun w K p => O_ia (P := P))
  case iaa => exact key _ (fun w K p => O_iaa (P := P))
  case idx => exact key _ (fun w K p => O_idx (P := P))
  case sidx => exact key _ (fun w K p => O_sidx (P := P))
  case ext => exact key _ (fun w K p => O_ext (P := P))
  case bld => exact key _ (fun w K p => O_bld (P := P))
  case mkif => exact key _ (fun w K p => O_mkif (P := P))
  case mkfn => exact key _ (fun w K p => O_mkfn (P := P))
  case slc => exact key _ (fun w K p => O_slc (P := P))
  case slca => exact key _ (fun w K p => O_slca (P := P))
  case conv => exact key _ (fun w K p => O_conv (P := P))
  case ta => exact key _ (fun w K p => O_ta (P := P))
  case len kind x =>
    have hk : ∀ w, lenF w kind (ev e x) = lenF w0 kind (ev e x) := by
      intro w
      unfold lenF
      split <;> first | rfl | (simp at hs)
    exact key _ (fun w K p => (O_len (P := P)).trans (by rw [hk w]))

theorem pure_same {P : Program} {s : SOp} (hs : isPure s = true) {e : Env} {w : World} {K : Value → World → Prop} {p : List PanicEntry → World → Prop} (h : oneS P s e w K p) : oneS P s e w (fun v w' => w' = w ∧ K v w') p := by
  obtain ⟨v, h1, h2⟩ := pure_yields hs h
  exact h2 w _ p ⟨rfl, h1⟩
theorem symOps_same {P : Program} {g : GOp} {K : Env → World → Prop} {x r : _} {p : List PanicEntry → World → Prop} {e : Env} {w : World}
    (h : symOps P [g] ⟨K, x, r, p⟩ e w) : symOps P [g] ⟨fun e' w' => (isPure g.s = true → w' = w) ∧ K e' w', x, r, p⟩ e w := by
  rw [symOps_one] at h ⊢
  refine guardK_mono (fun h => ?_) (fun h => ⟨fun _ => rfl, h⟩) h
  by_cases hp : isPure g.s = true
  · exact oneS_mono (fun v w' hk => ⟨fun _ => hk.1, hk.2⟩) (pure_same hp h)
  · exact oneS_mono (fun v w' hk => ⟨fun h => absurd h hp, hk⟩) h

/-- What it yields is the same in every world that keeps what it reads. -/
def YieldsAt (P : Program) (C : World → Prop) (g : GOp) (e : Env) (v : Value) : Prop :=
  ∀ w, C w → ∀ (K : Env → World → Prop) (x r : _) (p : List PanicEntry → World → Prop), K (updO e g.d v) w → symOps P [g] ⟨K, x, r, p⟩ e w
theorem YieldsAt.move {P : Program} {C : World → Prop} {g y : GOp} {e : Env} {v u : Value} (h : YieldsAt P C g e v) (hap : Apart y g) (hap' : Apart g y) : YieldsAt P C g (updO e y.d u) v := by
  intro w hw K x r p hk
  have h1 := h w hw (fun e' w' => K (updO e' y.d u) w') x r p (by rw [updO_comm hap'.d]; exact hk)
  rw [symOps_one] at h1 ⊢
  rw [hap.guard, hap.ops]
  refine guardK_mono (oneS_mono fun z w' hz => ?_) (fun hz => ?_) h1
  · have : updO (updO e g.d z) y.d u = updO (updO e y.d u) g.d z := updO_comm hap'.d
    rw [← this]; exact hz
  · have : updO (updO e g.d undef) y.d u = updO (updO e y.d u) g.d undef := updO_comm hap'.d
    rw [← this]; exact hz

theorem early_yields {P : Program} {X : Nat → Prop} {w0 : World} {g : GOp} {e : Env} {Z : Env → Prop} {x r : _} (hs : isPure g.s = true ∨ isRead g.s = true) (hro : wantedE g.g e → readOK X g.s e)
    (h : symOps P [g] ⟨fun e' _ => Z e', x, r, fun _ _ => False⟩ e w0) : ∃ v, Z (updO e g.d v) ∧ YieldsAt P (fun w => isPure g.s = true ∨ Keep X w0 w) g e v := by
  have step : ∀ (v : Value), (∀ w K p, (isPure g.s = true ∨ Keep X w0 w) → K v w → oneS P g.s e w K p) → (∀ (A B : Prop), A → guardK g.g e A B) → YieldsAt P (fun w => isPure g.s = true ∨ Keep X w0 w) g e v := by
    intro v hv hg w hw K x r p hk
    rw [symOps_one]
    exact hg _ _ (hv w _ _ hw hk)
  rw [symOps_one] at h
  have cases2 : (wantedE g.g e ∧ (∀ A B : Prop, guardK g.g e A B = A)) ∨ (∀ A B : Prop, guardK g.g e A B = B) := by
    cases hg : g.g with
    | none => exact .inl ⟨trivial, fun _ _ => rfl⟩
    | some tw =>
      obtain ⟨t, b⟩ := tw
      simp only [wantedE, guardK, valK]
      cases he : e t with
      | bool c =>
        by_cases hc : c = b
        · exact .inl ⟨by rw [hc], fun A B => by simp [hc]⟩
        · exact .inr fun A B => by simp [hc]
      | _ => exact .inr fun _ _ => rfl
  rcases cases2 with ⟨hw, hA⟩ | hB
  · rw [hA] at h
    have hr := hro hw
    by_cases hp : isPure g.s = true
    · obtain ⟨v, h1, h2⟩ := pure_yields hp h
      exact ⟨v, h1, step v (fun w K p _ hk => h2 w K p hk) (fun A B a => by rw [hA]; exact a)⟩
    · have hs := hs.resolve_left hp
      have hcl : ∀ w, (isPure g.s = true ∨ Keep X w0 w) → Keep X w0 w := fun w h => h.resolve_left hp
      cases hgs : g.s <;> rw [hgs] at hs hr h <;> simp only [isRead] at hs <;> try (cases hs; done)
      case ld a =>
        have h' : symOp P (.ld a) e w0 (fun v _ => Z (updO e g.d v)) := h
        rw [O_ld] at h'
        simp only [readOK, ldX] at hr
        split at hr
        · rename_i ad had
          rw [had] at h'
          simp only [ldF] at h'
          cases hc : w0.cell? ad with
          | none => rw [hc] at h'; exact h'.elim
          | some v =>
            rw [hc] at h'
            have hst := step v (fun w K p hkeep hk => by
              rw [hgs]
              show symOp P (.ld a) e w K
              rw [O_ld, had]
              simp only [ldF, (hcl w hkeep).cell hc hr]
              exact hk) (fun A B a => by rw [hA]; exact a)
            exact ⟨v, h', by rw [← hgs]; exact hst⟩
        · exact hr.elim
      case lkp ik z a i ok =>
        have h' : symOp P (.lkp ik z a i ok) e w0 (fun v _ => Z (updO e g.d v)) := h
        rw [O_lkp] at h'
        have hsame : ∀ w, Keep X w0 w → ∀ v, lkpV w0 z ok (ev e a) (ev e i) = some v → lkpV w z ok (ev e a) (ev e i) = some v := by
          intro w hkeep v hv
          simp only [readOK, lkX] at hr
          split at hr
          · rename_i b hb
            rw [hb] at hv ⊢
            unfold lkpV at hv ⊢
            split at hv
            · rename_i rr kk nn hrr hkk
              cases hrr
              simp only at hv ⊢
              cases hheap : w0.heap[b]? with
              | none => simp [hheap] at hv
              | some o => rw [hkeep.heap hheap hr]; rw [hheap] at hv; exact hv
            · cases hv
          · rename_i hb
            rw [hb] at hv ⊢
            unfold lkpV at hv ⊢
            split at hv
            · rename_i rr kk nn hrr hkk
              cases hrr
              exact hv
            · cases hv
          · exact hr.elim
        cases hc : lkpV w0 z ok (ev e a) (ev e i) with
        | none => rw [hc] at h'; exact h'.elim
        | some v =>
          rw [hc] at h'
          have hst := step v (fun w K p hkeep hk => by
            rw [hgs]
            show symOp P (.lkp ik z a i ok) e w K
            rw [O_lkp, hsame w (hcl w hkeep) v hc]
            exact hk) (fun A B a => by rw [hA]; exact a)
          exact ⟨v, h', by rw [← hgs]; exact hst⟩
  · rw [hB] at h
    have hst : YieldsAt P (fun w => isPure g.s = true ∨ Keep X w0 w) g e undef := fun w _ K x r p hk => by
      rw [symOps_one, hB]
      exact hk
    exact ⟨undef, h, hst⟩

/-- Whatever order is picked from here on; behind each operation what is still read is as it was. -/
def anyS (P : Program) (ops : Array Oper) (X : Nat → Prop) (w0 : World) (k : Kont) : Nat → Array Bool → Env → World → Prop
  | 0, listed, e, w => Region.ready .any ops listed = [] ∧ k.n e w
  | f + 1, listed, e, w => (Region.ready .any ops listed = [] → k.n e w) ∧ ∀ i ∈ Region.ready .any ops listed, ∃ g, gopAt P ops i = some g ∧
      symOps P [g] ⟨fun e' w' => (isPure g.s = true ∨ finAt P ops i = true ∨ Keep X w0 w') ∧ anyS P ops X w0 k f (listed.setIfInBounds i true) e' w', k.x, k.r, k.p⟩ e w

def Closed (ops : Array Oper) (listed : Array Bool) : Prop := ∀ j i, listed.getD j false = true → directOn ops j i = true → listed.getD i false = true
theorem ready_direct {ops : Array Oper} {listed : Array Bool} {j : Nat} (h : j ∈ Region.ready .any ops listed) (i : Nat) (hd : directOn ops j i = true) : listed.getD i false = true := by
  obtain ⟨_, o, ho, hall⟩ := mem_ready.1 h
  simp only [directOn, ho] at hd
  obtain ⟨e, he, hb⟩ := Array.any_eq_true'.1 hd
  simp only [Bool.and_eq_true, beq_iff_eq] at hb
  exact hb.2 ▸ hall e he hb.1
theorem getD_set {listed : Array Bool} {i j : Nat} (h : (listed.setIfInBounds i true).getD j false = true) : listed.getD j false = true ∨ j = i := by
  by_cases hij : i = j
  · exact .inr hij.symm
  · rw [getD_set_ne false hij] at h; exact .inl h
theorem Closed.set {ops : Array Oper} {listed : Array Bool} (h : Closed ops listed) {i : Nat} (hi : i ∈ Region.ready .any ops listed) : Closed ops (listed.setIfInBounds i true) := by
  intro j t hj hd
  rcases getD_set hj with hj | rfl
  · exact getD_set_true (h j t hj hd)
  · exact getD_set_true (ready_direct hi t hd)
theorem reach_listed {ops : Array Oper} {listed : Array Bool} (hc : Closed ops listed) : ∀ (f j i : Nat), reach ops f j i = true → (∀ t, directOn ops j t = true → listed.getD t false = true) → listed.getD i false = true := by
  intro f
  induction f with
  | zero => intro j i h; simp [reach] at h
  | succ f ih =>
    intro j i h hj
    simp only [reach] at h
    cases ho : ops[j]? with
    | none => simp [ho] at h
    | some o =>
      simp only [ho] at h
      obtain ⟨e, he, hb⟩ := Array.any_eq_true'.1 h
      simp only [Bool.and_eq_true, Bool.or_eq_true, beq_iff_eq] at hb
      have hdir : directOn ops j e.on = true := by
        simp only [directOn, ho]
        exact Array.any_eq_true'.2 ⟨e, he, by simp [hb.1]⟩
      rcases hb.2 with hb2 | hb2
      · exact hb2 ▸ hj e.on hdir
      · exact ih e.on i hb2 (fun t ht => hc e.on t (hj e.on hdir) ht)
theorem listed_two {listed : Array Bool} {i : Nat} (h : listed.getD i true = false) : listed.getD i false = false := by
  rcases Nat.lt_or_ge i listed.size with h' | h'
  · simp [h'] at h ⊢; exact h
  · simp [Array.getElem?_eq_none h']

theorem not_fin {P : Program} {ops : Array Oper} {listed : Array Bool} (hc : Closed ops listed) {i j : Nat} (hi : i ∈ Region.ready .any ops listed) (he : earlyR P ops i = true) (hj : j ∈ Region.ready .any ops listed) (hne : j ≠ i) :
    finAt P ops j ≠ true := by
  intro hf
  obtain ⟨hun, o, ho, _⟩ := mem_ready.1 hi
  have hlt : i < ops.size := (Array.getElem?_eq_some_iff.1 ho).1
  have h1 := List.all_eq_true.1 hf i (List.mem_range.2 hlt)
  simp only [he, Bool.not_true, Bool.or_false, Bool.or_eq_true, beq_iff_eq] at h1
  rcases h1 with h1 | h1
  · exact hne h1.symm
  · have := reach_listed hc _ j i h1 (fun t ht => ready_direct hj t ht)
    rw [listed_two hun] at this
    cases this

/-- What only reckons or reads may be taken first. -/
theorem anyS_take {P : Program} {ops : Array Oper} {X : Nat → Prop} {w0 : World} {k : Kont} {i : Nat} {g : GOp} {v : Value} (hg : gopAt P ops i = some g) (he : isPure g.s = true ∨ earlyR P ops i = true) :
    ∀ (f : Nat) (listed : Array Bool) (e : Env) (w : World), Closed ops listed →
      (∀ j, j < ops.size → j ≠ i → listed.getD j true = false → directOn ops j i = false → ∃ y, gopAt P ops j = some y ∧ apart g y = true) →
      i ∈ Region.ready .any ops listed → YieldsAt P (fun w => isPure g.s = true ∨ Keep X w0 w) g e v → isPure g.s = true ∨ Keep X w0 w →
      anyS P ops X w0 k f (listed.setIfInBounds i true) (updO e g.d v) w → anyS P ops X w0 k (f + 1) listed e w := by
  intro f
  induction f with
  | zero =>
    intro listed e w hcl hfree hr hy hw H
    refine ⟨fun h => (by rw [h] at hr; cases hr), fun j hj => ?_⟩
    by_cases hji : j = i
    · subst hji; exact ⟨g, hg, hy w hw _ _ _ _ ⟨hw.imp id .inr, H⟩⟩
    · have := ready_mono hj hji
      rw [H.1] at this
      cases this
  | succ f ih =>
    intro listed e w hcl hfree hr hy hw H
    refine ⟨fun h => (by rw [h] at hr; cases hr), fun j hj => ?_⟩
    by_cases hji : j = i
    · subst hji; exact ⟨g, hg, hy w hw _ _ _ _ ⟨hw.imp id .inr, H⟩⟩
    · obtain ⟨y, hy1, hy2⟩ := H.2 j (ready_mono hj hji)
      refine ⟨y, hy1, ?_⟩
      obtain ⟨hun, oj, hoj, _⟩ := mem_ready.1 hj
      have hlt : j < ops.size := (Array.getElem?_eq_some_iff.1 hoj).1
      have hnd : directOn ops j i = false := by
        cases hd : directOn ops j i with
        | false => rfl
        | true =>
          have := ready_direct hj i hd
          rw [listed_two (mem_ready.1 hr).1] at this
          cases this
      obtain ⟨y', hy1', hap⟩ := hfree j hlt hji hun hnd
      rw [hy1] at hy1'
      cases hy1'
      obtain ⟨ha1, ha2⟩ := apart_spec hap
      refine symOps_mono1' (fun e' w' hk => ?_) (symOps_same (symOps_comm ha1 hy2))
      obtain ⟨hsame, ⟨u, rfl⟩, hfin, hrest⟩ := hk
      refine ⟨hfin, ?_⟩
      have hkeep : isPure g.s = true ∨ Keep X w0 w' := by
        rcases he with he | he
        · exact .inl he
        · rcases hfin with hp | hfin
          · rw [hsame hp]; exact hw
          · exact .inr (hfin.resolve_left (not_fin hcl hr he hj hji))
      refine ih (listed.setIfInBounds j true) _ w' (hcl.set hj) (fun t ht hti htu htd => ?_) (ready_mono hr (Ne.symm hji)) (hy.move ha2 ha1) hkeep ?_
      · refine hfree t ht hti ?_ htd
        by_cases hjt : j = t
        · subst hjt; exact hun
        · rw [getD_set_ne true hjt] at htu; exact htu
      · rw [Array.setIfInBounds_comm _ _ hji]; exact hrest

theorem takeable_spec {P : Program} {ops : Array Oper} {listed : Array Bool} {i : Nat} {g : GOp} (hg : gopAt P ops i = some g) (h : takeable P ops listed i = true) :
    (isPure g.s = true ∨ earlyR P ops i = true) ∧ (isPure g.s = true ∨ isRead g.s = true) ∧
    ∀ j, j < ops.size → j ≠ i → listed.getD j true = false → directOn ops j i = false → ∃ y, gopAt P ops j = some y ∧ apart g y = true := by
  simp only [takeable, Bool.and_eq_true] at h
  obtain ⟨h1, h2⟩ := h
  refine ⟨?_, ?_, fun j hj hne hun hd => ?_⟩
  · simp only [earlyAt, Bool.or_eq_true] at h1
    exact h1.imp (fun h => by simpa [pureAt, hg] using h) id
  · simp only [earlyAt, Bool.or_eq_true] at h1
    refine h1.imp (fun h => by simpa [pureAt, hg] using h) (fun h => ?_)
    simp only [earlyR, Bool.and_eq_true] at h
    simpa [readAt, hg] using h.1
  · have h3 := List.all_eq_true.1 h2 j (List.mem_range.2 hj)
    simp only [hun, hd, Bool.or_false, Bool.or_eq_true, beq_iff_eq] at h3
    rcases h3 with h3 | h3
    · exact absurd h3 hne
    · simp only [hg] at h3
      cases hgj : gopAt P ops j with
      | none => simp [hgj] at h3
      | some y => simp only [hgj] at h3; exact ⟨y, rfl, h3⟩

theorem planS_sound {P : Program} {ops : Array Oper} {X : Nat → Prop} {w0 : World} {k : Kont} : ∀ (f : Nat) (listed : Array Bool) (e : Env) (w : World), Closed ops listed →
    (Keep X w0 w ∨ ∀ i, i ∈ Region.ready .any ops listed → earlyR P ops i = false ) →
    (Keep X w0 w ∨ ∀ i, i < ops.size → earlyR P ops i = true → listed.getD i false = true) →
    planS P X w0 k (mkPlan P ops f listed) e w → anyS P ops X w0 k f listed e w := by
  intro f
  induction f with
  | zero =>
    intro listed e w hcl _ hinv h
    simp only [mkPlan] at h
    split at h
    · rename_i hr; exact ⟨by simpa using hr, h⟩
    · exact h.elim
  | succ f ih =>
    intro listed e w hcl _ hinv h
    have inv2 : ∀ (listed : Array Bool) (w : World), (Keep X w0 w ∨ ∀ i, i < ops.size → earlyR P ops i = true → listed.getD i false = true) →
        (Keep X w0 w ∨ ∀ i, i ∈ Region.ready .any ops listed → earlyR P ops i = false) := by
      intro listed w h
      refine h.imp id (fun h i hi => ?_)
      cases he : earlyR P ops i with
      | false => rfl
      | true =>
        obtain ⟨hun, o, ho, _⟩ := mem_ready.1 hi
        have := h i (Array.getElem?_eq_some_iff.1 ho).1 he
        rw [listed_two hun] at this
        cases this
    simp only [mkPlan] at h
    split at h
    · rename_i hr
      exact ⟨fun _ => h, by rw [hr]; simp⟩
    · rename_i r rs hr
      split at h
      · rename_i i hfind
        split at h
        · rename_i g hg
          have hmem : i ∈ Region.ready .any ops listed := by rw [hr]; exact List.mem_of_find?_eq_some hfind
          have htk := List.find?_some hfind
          obtain ⟨ht1, ht2, ht3⟩ := takeable_spec hg htk
          obtain ⟨hro, hop⟩ := h
          obtain ⟨v, hz, hy⟩ := early_yields ht2 hro hop
          have hk : isPure g.s = true ∨ Keep X w0 w := by
            rcases ht1 with ht1 | ht1
            · exact .inl ht1
            · rcases inv2 listed w hinv with h1 | h1
              · exact .inr h1
              · have := h1 i hmem; rw [ht1] at this; cases this
          refine anyS_take hg ht1 f listed e w hcl ht3 hmem hy hk ?_
          have hinv' : Keep X w0 w ∨ ∀ t, t < ops.size → earlyR P ops t = true → (listed.setIfInBounds i true).getD t false = true := hinv.imp id (fun h t ht he => getD_set_true (h t ht he))
          exact ih _ _ w (hcl.set hmem) (inv2 _ w hinv') hinv' hz
        · exact h.elim
      · refine ⟨fun h0 => (by rw [hr] at h0; cases h0), ?_⟩
        rw [hr]
        have key : ∀ (l : List Nat), (∀ i ∈ l, i ∈ Region.ready .any ops listed) → planS P X w0 k (mkAlts P ops (fun i => mkPlan P ops f (listed.setIfInBounds i true)) l) e w → ∀ i ∈ l, ∃ g, gopAt P ops i = some g ∧
            symOps P [g] ⟨fun e' w' => (isPure g.s = true ∨ finAt P ops i = true ∨ Keep X w0 w') ∧ anyS P ops X w0 k f (listed.setIfInBounds i true) e' w', k.x, k.r, k.p⟩ e w := by
          intro l
          induction l with
          | nil => intro _ _ i hi; cases hi
          | cons j l ihl =>
            intro hl hp i hi
            simp only [mkAlts] at hp
            split at hp
            · rename_i g hg
              obtain ⟨h1, h2⟩ := hp
              rcases List.mem_cons.1 hi with rfl | hi
              · refine ⟨g, hg, symOps_mono1' (fun e' w' hk => ⟨.inr hk.1, ?_⟩) h1⟩
                have hinv' : Keep X w0 w' ∨ ∀ t, t < ops.size → earlyR P ops t = true → (listed.setIfInBounds i true).getD t false = true := by
                  rcases hk.1 with hf | hf
                  · right
                    intro t ht he
                    have h3 := List.all_eq_true.1 hf t (List.mem_range.2 ht)
                    simp only [he, Bool.not_true, Bool.or_false, Bool.or_eq_true, beq_iff_eq] at h3
                    have hri := hl i (by simp)
                    rcases h3 with h3 | h3
                    · subst h3
                      have hlt : t < (listed).size := by
                        have hun := (mem_ready.1 hri).1
                        rcases Nat.lt_or_ge t listed.size with h' | h'
                        · exact h'
                        · simp [Array.getElem?_eq_none h'] at hun
                      simp [hlt]
                    · exact getD_set_true (reach_listed hcl _ i t h3 (fun s hs => ready_direct hri s hs))
                  · exact .inl hf
                exact ih _ _ w' (hcl.set (hl i (by simp))) (inv2 _ w' hinv') hinv' hk.2
              · exact ihl (fun t ht => hl t (by simp [ht])) h2 i hi
            · exact hp.elim
        exact key (r :: rs) (fun i hi => by rw [hr]; exact hi) h

theorem wpOp_of_one {n : Nat} {P : Program} {ops : Array Oper} {k : Kont} {i : Nat} {g : GOp} {K : Env → World → Prop} {K' : Act → World → Prop} {a : Act} {e : Env} {w : World} (hg : gopAt P ops i = some g)
    (hf : fitsOps n ops.toList = true) (h : Rel n a e) (hs : symOps P [g] ⟨K, k.x, k.r, k.p⟩ e w) (hK : ∀ a e w, Rel n a e → K e w → K' a w) : wpOp P ops (lift n k) i K' a w := by
  unfold gopAt at hg
  cases ho : ops[i]? with
  | none => simp [ho] at hg
  | some o =>
    simp only [ho] at hg
    cases hgd : guardOf ops o.guard with
    | none => simp [hgd] at hg
    | some gd =>
      simp only [hgd, Option.some.injEq] at hg
      subst hg
      have hto : toOps P ops [o] = some [⟨o.dst, toOp P o, gd⟩] := by simp [toOps, hgd]
      have hfo : fitsOps n [o] = true := by
        have hm : o ∈ ops.toList := by simpa using Array.mem_of_getElem? ho
        simp only [fitsOps, List.all_eq_true] at hf ⊢
        intro x hx
        simp at hx; subst hx
        exact hf _ hm
      have hw := symOps_sound (k := ⟨K, k.x, k.r, k.p⟩) [o] _ hto hfo a e w h hs
      unfold wpOp
      simp only [ho]
      unfold wpList at hw
      have conv : o.wp P a w (wpList P ops (lift n ⟨K, k.x, k.r, k.p⟩) []) (lift n ⟨K, k.x, k.r, k.p⟩) ∨ (o.asks P a w ∧ LetsOut (lift n ⟨K, k.x, k.r, k.p⟩)) → o.wp P a w K' (lift n k) ∨ (o.asks P a w ∧ LetsOut (lift n k)) := by
        intro h1
        rcases h1 with h1 | h1
        · left
          unfold Oper.wp at h1 ⊢
          generalize (execOp a.eval o).run P w = r at *
          cases r with
          | ok x w' =>
            cases x <;> simp only [Oper.upon] at h1 ⊢
            case value v => obtain ⟨e', h2, h3⟩ := h1; exact hK _ _ _ h2 h3
            case skip => obtain ⟨e', h2, h3⟩ := h1; exact hK _ _ _ h2 h3
            case defer d => obtain ⟨e', h2, h3⟩ := h1; exact hK _ _ _ h2 h3
            case enter f args =>
              refine Calls.mono h1 fun en w'' he => ?_
              cases en with
              | returned v => obtain ⟨e', h2, h3⟩ := he; exact hK _ _ _ h2 h3
              | panicked c => exact he
              | outgrown => obtain ⟨_, _, hf⟩ := he; exact (hf : False).elim
            case row row args => exact Rows.mono h1 fun v w'' he => by obtain ⟨e', h2, h3⟩ := he; exact hK _ _ _ h2 h3
          | halt x w' => cases x <;> simp only [Oper.upon] at h1 ⊢; exact h1
        · obtain ⟨_, _, _, hf⟩ := h1; exact (hf : False).elim
      split at hw
      · rename_i hwt; rw [if_pos hwt]; exact conv hw
      · rename_i hwt; rw [if_neg hwt]
        obtain ⟨e', h2, h3⟩ := hw
        exact hK _ _ _ h2 h3

theorem anyS_wp {n : Nat} {P : Program} {ops : Array Oper} {X : Nat → Prop} {w0 : World} {k : Kont} (hf : fitsOps n ops.toList = true) : ∀ (f : Nat) (listed : Array Bool) (a : Act) (e : Env) (w : World), Rel n a e →
    anyS P ops X w0 k f listed e w → wpAny P .any ops (lift n k) f listed a w := by
  intro f
  induction f with
  | zero => intro listed a e w h hs; exact ⟨hs.1, e, h, hs.2⟩
  | succ f ih =>
    intro listed a e w h hs
    refine ⟨fun hr => ⟨e, h, hs.1 hr⟩, fun i hi => ?_⟩
    obtain ⟨g, hg, hs2⟩ := hs.2 i hi
    exact wpOp_of_one hg hf h hs2 (fun a e w hr hk => ih _ a e w hr hk.2)

/-- A region that draws its order, by its plan. -/
theorem draw_rule {n : Nat} {P : Program} {c : Code} {pl : Plan} {k : Kont} {e : Env} {w : World} (X : Nat → Prop) (hm : P.follows .mixedOrders = true) (hf : fits n c = true) (hpl : planOf P c = pl)
    (h : R (planS P X w.drew k pl e w.drew)) : R (symS n P (.raw c) k e w) := by
  intro a hr
  unfold planOf at hpl
  split at hpl
  · rename_i id ops
    refine wp_region_any hm (anyS_wp hf _ _ a e _ hr (planS_sound _ _ e _ ?_ (.inl (Keep.refl _ _)) (.inl (Keep.refl _ _)) (hpl ▸ h)))
    intro j i hj
    rw [Array.getD_eq_getD_getElem?, Array.getElem?_replicate] at hj
    split at hj <;> simp at hj
  · subst hpl; exact h.elim

section
variable {P : Program} {X : Nat → Prop} {w0 w : World} {k : Kont} {e : Env} {g : GOp} {p q : Plan} {A : Prop}
theorem drew_cell {a : Addr} : w.drew.cell? a = w.cell? a := rfl
theorem drew_heap : w.drew.heap = w.heap := rfl
theorem drew_frozen {a : Addr} : w.drew.frozen? a = w.frozen? a := rfl
theorem drew_lkp {z : Value} {ok : Bool} {u v : Value} : lkpV w.drew z ok u v = lkpV w z ok u v := rfl
theorem P_done : R (planS P X w0 k .done e w) = R (k.n e w) := propext ⟨fun h => h, fun h => h⟩
theorem P_stop : R (planS P X w0 k .stop e w) = True := propext ⟨fun _ => trivial, fun _ => trivial⟩
theorem P_take : R (planS P X w0 k (.take g p) e w) = ((wantedE g.g e → readOK X g.s e) ∧ R (symOps P [g] ⟨fun e' _ => planS P X w0 k p e' w, k.x, k.r, fun _ _ => False⟩ e w0)) := propext ⟨fun h => h, fun h => h⟩
theorem P_alt {fin : Bool} : R (planS P X w0 k (.alt fin g p q) e w) = (R (symOps P [g] ⟨fun e' w' => (fin = true ∨ Keep X w0 w') ∧ planS P X w0 k p e' w', k.x, k.r, k.p⟩ e w) ∧ R (planS P X w0 k q e w)) := propext ⟨fun h => h, fun h => h⟩
theorem P_and : R (A ∧ planS P X w0 k p e w) = (A ∧ R (planS P X w0 k p e w)) := propext ⟨fun h => h, fun h => h⟩
theorem wanted_none : wantedE none e = True := rfl
theorem wanted_some {t : Nat} {b : Bool} : wantedE (some (t, b)) e = (e t = .bool b) := rfl
theorem ldX_p {a : Addr} : ldX X (.pointer (some a)) = ¬ X a.block := rfl
theorem lkX_m {r : Nat} : lkX X (.map (some r)) = ¬ X r := rfl
theorem lkX_n : lkX X (.map none) = True := rfl
end
end Go.Proofs.Ytneehlkofcdhoaa
