/- Texts of one claim, put together in their order: what each proves stands ahead of it. -/
import Derived.RangeFuncNested
import Derived.RangeFuncBound
import Derived.RangeFuncCalls
import Derived.RangeFuncLeaves
import Derived.RangeFuncBox
import Derived.Shelf.Abstract
import Derived.Shelf.RegionOpen
import Derived.WalkKit
import Derived.OwnWalkIn
import Derived.TacticsInMore
import Derived.LoopNIn
import Derived.LoopIn
import Derived.Maps.AppendAt
import Derived.Test.YtddiikeepncakaaGreatMf
import Derived.Test.YtddiikeepncakaaGreatMe
import Derived.Test.YtddiikeepncakaaGreatMc
import Derived.Carry
import Derived.Deep.Slices
import Derived.Lib.SmallJoins
import Derived.OpenShut
import Derived.Test.YtddiikeepncakaaGreatMd
/- pages: all pages of a file; a range over a function. -/
namespace Go.Proofs.YtddiikeepncakaaGreat
open Go Go.RowKit
set_option linter.unusedSimpArgs false
attribute [local go_sem] Oper.semAt_some
theorem iall_spec {w : World} {o : Opn} : Calls Tryz.prog 63 #[.agg o.cells.toArray] w (Ret fun v w' => v = .func (.func 109) #[] #[.pointer (some ⟨w.heap.size, 0, none⟩)] ∧ w' = w.alloc (.cells (Value.agg o.cells.toArray).cells 91)) := by
  apply enter63
  apply R_in
  simp (maxSteps := 1000000) (disch := omega) only [↓sy1, sy2, sy3, readOK, sy5, sy6, Nat.reduceEqDiff, ↓reduceIte, sy7, sy8, sy9, sya, oneOf, syb, syc, Nat.reduceAdd, Nat.reduceMul, syd, sye, syf, syg, syh, reduceCtorEq, F63]
  exact R_out trivial
theorem ipages_in {n k : Nat} {w : World} (hk : k < 1000000000) : CallsIn Fence.wide n Tryz.prog 31 #[.int .i64 k] w fun e w' => e = .returned (.int .i64 (pagesN k : Nat)) ∧ w' = w :=
  callsIn_wide.2 ((ipages_spec hk).mono fun e w' he => by
    cases e with
    | returned v => exact ⟨congrArg _ he.1, he.2⟩
    | panicked c => exact he.elim
    | outgrown => exact he.elim)
theorem slot_in {n q j : Nat} {w : World} (hj : j < 138) : CallsIn Fence.wide n Tryz.prog 47 #[.pointer (some ⟨q, 0, none⟩), .int .i64 j] w fun e w' => e = .returned (.pointer (some ⟨q, slotJ j, none⟩)) ∧ w' = w :=
  callsIn_wide.2 ((slot_spec hj).mono fun e w' he => by
    cases e with
    | returned v => exact ⟨congrArg _ he.1, he.2⟩
    | panicked c => exact he.elim
    | outgrown => exact he.elim)
set_option maxRecDepth 100000 in
set_option maxHeartbeats 1000000 in
/-- The iterator, for every loop body that keeps the inode. -/
theorem all1_in (n l q : Nat) (o : Opn) (hd : o.data.length = pagesN o.size) (hs : o.size ≤ 70656) (J Jx : List Nat → World → Prop)
    (hY : ∀ pre x W, J pre W → pre.length < o.data.length → YieldAt Fence.wide (n - 1) Tryz.prog l #[.int .i64 ((x : Nat) : Int)] W fun e W' =>
      (e = .returned (.bool true) ∧ J (pre ++ [x]) W' ∧ (∀ ob, W.heap[q]? = some ob → W'.heap[q]? = some ob)) ∨ (e = .returned (.bool false) ∧ Jx (pre ++ [x]) W'))
    (W : World) (hq : OpnAt W q o) (h0 : J [] W) :
    CallsIn Fence.wide n Tryz.prog 109 #[.func (.yield l) #[] #[], .pointer (some ⟨q, 0, none⟩)] W fun e W' => (∃ v, e = .returned v) ∧
      ((∃ ys, ys = o.data ∧ J ys W') ∨ (∃ pre, pre <+: o.data ∧ Jx pre W')) := by
  refine callsIn_of_wp Tryz.func109 rfl trivial ?_ rfl
  simp only [Tryz.ntmps109, List.size_toArray, List.length_cons, List.length_nil, Nat.reduceAdd, Nat.reduceSub, Array.replicate_succ, Array.replicate_zero, List.push_toArray, List.append_toArray, List.nil_append, List.cons_append]
  have hc3 := hq.cell (j := 3) (by omega)
  rw [show o.cell 3 = o.size from rfl] at hc3
  gi_wp2_with (refine ⟨trivial, fun h => absurd h (by decide), ?_⟩; gi_at_call 31; refine (ipages_in (k := o.size) (by omega)).mono ?_; rintro e w' ⟨rfl, rfl⟩)
  gi_loopw [8] (fun v wr => ∃ k : Nat, v = .int .i64 ((k : Nat) : Int) ∧ k ≤ pagesN o.size ∧ OpnAt wr q o ∧ J (o.data.take k) wr)
    (fun v wr => pagesN o.size - (intOf v).toNat)
  case atStart =>
    exact ⟨0, rfl, Nat.zero_le _, hq, h0⟩
  case round =>
    obtain ⟨k, rfl, hk, hqr, hJ⟩ := hrel
    have hpm := pagesN_le hs
    by_cases hlt : k < pagesN o.size
    · have hlt' : ((k : Nat) : Int) < ((pagesN o.size : Nat) : Int) := by omega
      have hcell := hqr.cell (j := slotJ k) (slotJ_lt (by omega))
      have hkd : k < o.data.length := by omega
      rw [o.cell_slot, List.getD_eq_getElem?_getD, List.getElem?_eq_getElem hkd, Option.getD_some] at hcell
      have htk : o.data.take k ++ [o.data[k]] = o.data.take (k + 1) := by rw [List.take_succ_eq_append_getElem hkd]
      obtain ⟨fn, tmps, assign, body, hy, hR⟩ := hY (o.data.take k) o.data[k] wr hJ (by rw [List.length_take]; omega)
      gi_wp2_with (refine ⟨trivial, fun h => absurd h (by decide), ?_⟩; gi_at_call 47; refine (slot_in (j := k) (by omega)).mono ?_; rintro e w' ⟨rfl, rfl⟩)
      refine ⟨fun h => absurd h (by decide), hR.mono ?_⟩
      rintro e W3 (⟨rfl, hJ3, hk3⟩ | ⟨rfl, hJx3⟩)
      · gi_wp2
        go_roundw
        case rel => exact ⟨k + 1, by simp, by omega, hk3 _ hqr, by rw [htk] at hJ3; exact hJ3⟩
        case measure => simp [intOf]; omega
      · gi_wp2
        refine bodyPost_ret (results_none rfl _ _ _) rfl ?_
        exact ⟨⟨_, rfl⟩, .inr ⟨o.data.take (k + 1), List.take_prefix _ _, by rw [htk] at hJx3; exact hJx3⟩⟩
    · have hlt' : ¬ ((k : Nat) : Int) < ((pagesN o.size : Nat) : Int) := by omega
      have hke : k = o.data.length := by omega
      rw [hke, List.take_length] at hJ
      gi_wp2
      go_end0
      exact ⟨⟨_, rfl⟩, .inl hJ⟩
/-- One piece of a function that ranges over a function, in its plain reading. -/
theorem sym_step {n N : Nat} {P : Program} {c1 c2 : Code} {s : SCode} {a : Act} {e : Env} {w : World} {Q : Exit → Act → World → Prop} (hfit : fits n c1 = true) (hs : toS P c1 = s) (hr : Rel n a e)
    (hk : symS n P s ⟨fun e w => ∀ a, Rel n a e → c2.wpIn Fence.wide N P Q a w, fun _ _ _ => False, fun e w => ∀ a, Rel n a e → Q .ret a w, fun _ _ => False⟩ e w) : (Code.seq c1 c2).wpIn Fence.wide N P Q a w := by
  refine wpIn_seq (wpIn_wide.2 (Code.wp_mono (fun ex a' w' hl => ?_) (symS_sound c1 hfit _ a e w hr (hs ▸ hk))))
  cases ex with
  | normal => obtain ⟨e', h1, h2⟩ := hl; exact h2 a' h1
  | ret => obtain ⟨e', h1, h2⟩ := hl; exact h2 a' h1
  | exit i => obtain ⟨_, _, h⟩ := hl; exact h.elim
  | panic c => exact hl.2.elim
  | goto l => exact (hl : False).elim
  | outgrown => exact (hl : False).elim
theorem rel38 {a : Act} {e : Env} (h : Rel 38 a e) : a = { tmps := #[e 0, e 1, e 2, e 3, e 4, e 5, e 6, e 7, e 8, e 9, e 10, e 11, e 12, e 13, e 14, e 15, e 16, e 17, e 18, e 19, e 20, e 21, e 22, e 23, e 24, e 25, e 26, e 27, e 28, e 29, e 30, e 31, e 32, e 33, e 34, e 35, e 36, e 37], defers := [] } := by
  obtain ⟨tmps, defers⟩ := a
  have h1 : defers = [] := h.defers
  subst h1
  have h2 : #[e 0, e 1, e 2, e 3, e 4, e 5, e 6, e 7, e 8, e 9, e 10, e 11, e 12, e 13, e 14, e 15, e 16, e 17, e 18, e 19, e 20, e 21, e 22, e 23, e 24, e 25, e 26, e 27, e 28, e 29, e 30, e 31, e 32, e 33, e 34, e 35, e 36, e 37] = ((List.range 38).map e).toArray := rfl
  rw [h2]
  have h3 : tmps.size = 38 := h.size
  have h4 : tmps = ((List.range 38).map e).toArray := by
    refine Array.ext (by simp [h3]) fun i hi hi' => ?_
    have h5 : tmps.getD i undef = e i := h.val i
    rw [Array.getD_eq_getD_getElem?, Array.getElem?_eq_getElem hi] at h5
    simpa using h5
  rw [h4]
noncomputable def sgA : SCode := match F29 with | .seq a _ => a | c => c
noncomputable def sgB : SCode := match F29 with | .seq _ (.seq a _) => a | c => c
noncomputable def sgC : SCode := match F29 with | .seq _ (.seq _ (.seq a _)) => a | c => c
noncomputable def sgD : SCode := match F29 with | .seq _ (.seq _ (.seq _ (.seq a _))) => a | c => c
noncomputable def sgE : SCode := match F29 with | .seq _ (.seq _ (.seq _ (.seq _ (.seq (.seq a _) _)))) => a | c => c
theorem infoInt : (Tryz.prog.info? 3).map (fun i => (i.zero, i.size, i.bytes)) = some (some (.int .i64 0), 1, 8) := by kernel_rfl
/-- What Pages tells. -/
def pgB (F : Nat → Option Opn) (k : Nat) (i : Int) : List Int := if lookC F k i ≠ 0 then [] else (lookO F k i).own.map fun n => ((n : Nat) : Int)
section
variable {G : Gh} {κ μ m p lq came s : Nat} {w : World} {c : Csh} {P I : List Bool} {F : Nat → Option Opn} {B : Nat → List UInt8}
set_option maxRecDepth 100000 in
set_option maxHeartbeats 4000000 in
theorem ipages_in_spec {ρ : Nat} (h : Ino G κ μ w s m p lq came c P I F B) (hρ : ρ ≠ 0 ∧ ρ ≠ κ ∧ ρ ≠ μ) {i : Int} :
    CallsIn Fence.wide 10 Tryz.prog 29 #[.pointer (some ⟨s, 0, none⟩), .int .i64 i] w fun en w' => ∃ u G', en = .returned (.tuple #[u, .int .i64 (lookC F I.length i)]) ∧ w'.ownsRow w.heap.size 3 1 u (pgB F I.length i).length (ints (pgB F I.length i)) ∧ OwnR ρ G' u ∧
      Ext (fun x => x = μ) G w G' w' ∧ Ino G' κ μ w' s m p lq came c P I F B := by
  obtain ⟨hne1, hne2, hne3⟩ := h.map.1.cache.ne
  obtain ⟨hρ0, hρκ, hρμ⟩ := hρ
  have h6 := h.map.1.ne
  have hnm : ¬ (6 = μ) := by omega
  have h0μ : ¬ ((0 : Nat) = μ) := by omega
  have hnil : ∀ (G : Gh), OwnR ρ G (.slice none 0 0) := fun G b hb => by cases hb
  refine callsIn_of_wp_marks Tryz.func29 rfl trivial ?_
  have hinit : Rel 38 { tmps := #[.pointer (some ⟨s, 0, none⟩), .int .i64 i] ++ Array.replicate (Tryz.f29.ntmps - #[Value.pointer (some ⟨s, 0, none⟩), .int .i64 i].size) undef, defers := [] } (upd (upd env0 0 (.pointer (some ⟨s, 0, none⟩))) 1 (.int .i64 i)) := by
    have he : (upd (upd env0 0 (.pointer (some ⟨s, 0, none⟩))) 1 (.int .i64 i)) = initEnv [.pointer (some ⟨s, 0, none⟩), .int .i64 i] 0 env0 := rfl
    rw [he]
    refine ⟨by simp [Tryz.ntmps29], rfl, fun t => ?_⟩
    have hga := getD_args [.pointer (some ⟨s, 0, none⟩), .int .i64 i] (Tryz.f29.ntmps - #[Value.pointer (some ⟨s, 0, none⟩), .int .i64 i].size) t
    refine hga.trans ?_
    simp only [initEnv_get, Nat.zero_add, Nat.zero_le, true_and, Nat.sub_zero]
    split
    · rfl
    · rename_i hlt
      rw [List.getD_eq_getElem?_getD, List.getElem?_eq_none (by omega)]; rfl
  refine sym_step (s := sgA) (by kernel_rfl) (by kernel_rfl) hinit ?_
  apply R_in
  simp (maxSteps := 1000000) (disch := omega) only [↓sy1, sy2, sy3, readOK, sy5, sy6, Nat.reduceEqDiff, ↓reduceIte, sy7, sy8, sy9, sya, oneOf, syb, syc, Nat.reduceAdd, Nat.reduceMul, syd, sye, syf, syg, syh, reduceCtorEq, sgA, F29]
  refine R_out fun a1 ha1 => ?_
  refine sym_step (s := sgB) (by kernel_rfl) (by kernel_rfl) ha1 ?_
  apply R_in
  simp (maxSteps := 1000000) (disch := omega) only [↓sy1, sy2, sy3, readOK, sy5, sy6, Nat.reduceEqDiff, ↓reduceIte, sy7, sy8, sy9, sya, oneOf, syb, syc, Nat.reduceAdd, Nat.reduceMul, syd, sye, syf, syg, syh, reduceCtorEq, sgB, F29]
  refine call0 (h.load (i := i)) ?_
  rintro _ w1 ⟨rfl, G1, hx1, h1⟩
  obtain ⟨w2, G2, st2, hq2, hoq2, hx2⟩ := openO G1 w1 (lookO F I.length i)
  have h2 := h1.ext hx2 id id id
  have hx02 := hx1.trans (hx2.mono (fun _ h => h.elim))
  simp (maxSteps := 1000000) (disch := omega) only [↓sy1, sy2, sy3, readOK, sy5, sy6, Nat.reduceEqDiff, ↓reduceIte, sy7, sy8, sy9, sya, oneOf, syb, syc, Nat.reduceAdd, Nat.reduceMul, syd, sye, syf, syg, syh, reduceCtorEq, st2]
  refine R_out fun a2 ha2 => ?_
  refine sym_step (s := sgC) (by kernel_rfl) (by kernel_rfl) ha2 ?_
  apply R_in
  rcases look_cases F I.length i with ⟨hl, hz⟩ | ⟨hl, j, o, rfl, hj1, hjk, hF, ho⟩
  · have hpg : pgB F I.length i = [] := if_pos hl
    simp (maxSteps := 1000000) (disch := omega) only [↓sy1, sy2, sy3, readOK, sy5, sy6, Nat.reduceEqDiff, ↓reduceIte, sy7, sy8, sy9, sya, oneOf, syb, syc, Nat.reduceAdd, Nat.reduceMul, syd, sye, syf, syg, syh, reduceCtorEq, sgC, F29, hl, decide_false, not_false_eq_true, decide_true]
    refine R_out fun a3 ha3 => ?_
    have ha := rel38 ha3
    simp only [upd, env0, Nat.reduceEqDiff, if_false, if_true] at ha
    subst ha
    refine ⟨_, results_tmp2 rfl _ _ _, ?_⟩
    have hfin : ∃ u G', Ending.returned (Value.tuple #[.slice none 0 0, .int .i64 (lookC F I.length i)]) = .returned (.tuple #[u, .int .i64 (lookC F I.length i)]) ∧ w2.ownsRow w.heap.size 3 1 u (pgB F I.length i).length (ints (pgB F I.length i)) ∧ OwnR ρ G' u ∧ Ext (fun x => x = μ) G w G' w2 ∧ Ino G' κ μ w2 s m p lq came c P I F B :=
      ⟨_, G2, rfl, by rw [hpg]; exact World.ownsRow_nil _ _ _ _, hnil _, hx02, h2⟩
    simpa using hfin
  rw [ho] at st2 hq2
  simp (maxSteps := 1000000) (disch := omega) only [↓sy1, sy2, sy3, readOK, sy5, sy6, Nat.reduceEqDiff, ↓reduceIte, sy7, sy8, sy9, sya, oneOf, syb, syc, Nat.reduceAdd, Nat.reduceMul, syd, sye, syf, syg, syh, reduceCtorEq, sgC, F29, hl, decide_true, not_true_eq_false, decide_false]
  refine R_out fun a3 ha3 => ?_
  refine sym_step (s := sgD) (by kernel_rfl) (by kernel_rfl) ha3 ?_
  apply R_in
  simp (maxSteps := 1000000) (disch := omega) only [↓sy1, sy2, sy3, readOK, sy5, sy6, Nat.reduceEqDiff, ↓reduceIte, sy7, sy8, sy9, sya, oneOf, syb, syc, Nat.reduceAdd, Nat.reduceMul, syd, sye, syf, syg, syh, reduceCtorEq, sgD, F29]
  refine R_out fun a4 ha4 => ?_
  refine wpIn_seq ?_
  refine sym_step (s := sgE) (by kernel_rfl) (by kernel_rfl) ha4 ?_
  apply R_in
  have hbx3 : Boxed (w2.alloc (.cells (Value.slice none 0 0).cells 64)) w2.heap.size 64 (.slice none 0 0) := Boxed.new w2 64 (.slice none 0 0)
  have hg3 : Grow w2 (w2.alloc (.cells (Value.slice none 0 0).cells 64)) := (Keep.refl _ _).alloc _
  have hs3 : (w2.alloc (.cells (Value.slice none 0 0).cells 64)).heap.size = w2.heap.size + 1 := by simp
  have hb3 : Below w2.heap.size w2 (w2.alloc (.cells (Value.slice none 0 0).cells 64)) := (Below.refl _ w2).alloc (Nat.le_refl _) _
  have hq3 := hq2.keep hg3 id
  clear ha1 ha2 ha3 hinit
  generalize w2.alloc (.cells (Value.slice none 0 0).cells 64) = w3 at hbx3 hg3 hs3 hb3 hq3 ha4 ⊢
  simp (maxSteps := 1000000) (disch := omega) only [↓sy1, sy2, sy3, readOK, sy5, sy6, Nat.reduceEqDiff, ↓reduceIte, sy7, sy8, sy9, sya, oneOf, syb, syc, Nat.reduceAdd, Nat.reduceMul, syd, sye, syf, syg, syh, reduceCtorEq, sgE, F29, hq3.load]
  refine call0 iall_spec ?_
  rintro _ w4 ⟨rfl, rfl⟩
  have hq4 : OpnAt (w3.alloc (.cells (Value.agg o.cells.toArray).cells 91)) w3.heap.size o := OpnAt.box w3 o
  have hg4 : Grow w3 (w3.alloc (.cells (Value.agg o.cells.toArray).cells 91)) := (Keep.refl _ _).alloc _
  have hs4 : (w3.alloc (.cells (Value.agg o.cells.toArray).cells 91)).heap.size = w3.heap.size + 1 := by simp
  have hb4 : Below w2.heap.size w2 (w3.alloc (.cells (Value.agg o.cells.toArray).cells 91)) := hb3.alloc (by omega) _
  have hbx4 := hbx3.alloc (.cells (Value.agg o.cells.toArray).cells 91)
  have hqq4 := hq3.keep hg4 id
  simp (maxSteps := 1000000) (disch := omega) only [↓sy1, sy2, sy3, readOK, sy5, sy6, Nat.reduceEqDiff, ↓reduceIte, sy7, sy8, sy9, sya, oneOf, syb, syc, Nat.reduceAdd, Nat.reduceMul, syd, sye, syf, syg, syh, reduceCtorEq]
  refine R_out fun a5 ha5 => ?_
  have ha := rel38 ha5
  clear ha4 ha5
  simp only [upd, env0, Nat.reduceEqDiff, if_false, if_true] at ha
  generalize w3.alloc (.cells (Value.agg o.cells.toArray).cells 91) = w4 at hq4 hg4 hs4 hb4 hbx4 hqq4 ha ⊢
  have hbo : w3.heap.size = w2.heap.size + 1 := hs3
  generalize hbOd : w3.heap.size = bO at hq4 hs4 ha hbo ⊢
  generalize hBd : w2.heap.size = B0 at hbx4 hb4 ha hbo ⊢
  subst ha
  subst hbo
  refine wpIn_block ?_
  obtain ⟨i0, hi, hz0, hz1, hz2⟩ := info_parts infoInt
  have hok := (h2.file hF).2.1
  have hos := hok.size
  have hdl := pagesN_le hos
  rw [← hok.data] at hdl
  have hseq : SeqStopsK Fence.wide (10 - 1) Tryz.prog 109 #[.pointer (some ⟨(B0 + 1), 0, none⟩)] (fun x : Nat => #[Value.int .i64 ((x : Nat) : Int)]) (fun W W' => ∀ ob, W.heap[(B0 + 1)]? = some ob → W'.heap[(B0 + 1)]? = some ob) (fun ys => ys = o.data) (fun pre => pre <+: o.data) o.data.length w4 := fun l J Jx W hW _ _ hY h0 =>
    all1_in _ l (B0 + 1) o hok.data hos J Jx hY W ((hW.block (B0 + 1) hq4.lt).trans hq4) h0
  refine wpIn_rangeFunc_ownG rfl (by omega) (gf := 109) (lb := #[.pointer (some ⟨(B0 + 1), 0, none⟩)]) rfl trivial (enters_of Tryz.func109 (by kernel_rfl) rfl)
    hseq (fun h1 h2 ob hob => h2 ob (h1 ob hob)) (fun W l o1 o2 hl _ _ _ ob hob => (World.putObj_heap_other (by omega)).trans hob) (Below.refl _ _) (fun _ => rfl)
    (fun pre W => (∃ v, Boxed W B0 64 v ∧ W.ownsRow B0 3 1 v pre.length (ints (pre.map fun n => ((n : Nat) : Int))) ∧ True) ∧ Below B0 w2 W ∧ (OpnAt W (B0 + 1) o ∧ OpnAt W w1.heap.size o))
    (fun _ _ _ => False)
    ?own (fun _ _ _ _ _ hs _ _ => hs) ⟨⟨_, hbx4, World.ownsRow_nil _ _ _ _, trivial⟩, hb4, hq4, hqq4⟩
    (fun x => { tmps := #[.pointer (some ⟨s, 0, none⟩), .int .i64 j, undef, undef, .slice none 0 0, .int .i64 0, .pointer (some ⟨w1.heap.size, 0, none⟩), .int .i64 0, .pointer (some ⟨B0, 0, none⟩), .int .i64 ((x : Nat) : Int), undef,
      .tuple #[.agg o.cells.toArray, .int .i64 0], .pointer (some ⟨s, 0, none⟩), .int .i64 j, .tuple #[.agg o.cells.toArray, .int .i64 0], .agg o.cells.toArray, .int .i64 0, .int .i64 0, .bool false, undef, .agg o.cells.toArray,
      .func (.func 109) #[] #[.pointer (some ⟨B0 + 1, 0, none⟩)], .int .i64 ((x : Nat) : Int), undef, undef, undef, undef, undef, undef, undef, undef, undef, undef, undef, undef, undef, undef, undef], defers := [] }) ?assign ?body ?done ?stop
  case own =>
    refine OwnFrom.and (Own.from (holdsRow_own B0 B0 64 3 1 (fun pre : List Nat => pre.length) (fun pre => ints (pre.map fun n => ((n : Nat) : Int))) (fun _ _ => True)) _) (OwnFrom.and (ownFrom_below (by omega) (by omega)) (Own.from ?_ _))
    rintro pre W W' row ⟨h1, h2⟩ hg hr
    have key : ∀ q x, OpnAt W q x → OpnAt W' q x := fun q x hq => by
      refine (hg.block q hq.lt (fun hh => ?_)).trans hq
      obtain ⟨ob, hob, hc⟩ := hr q hh.symm
      rw [hq] at hob; cases hob; cases hc
    exact ⟨key _ _ h1, key _ _ h2⟩
  case assign =>
    intro l x W K hK
    gi_wp2
    exact hK
  case body =>
    rintro l pre x W ⟨⟨v, hv, hrow, _⟩, hB, hqb, hqo⟩ hlt
    have hc := hv.cell
    have hBs := hB.size
    have hvB := hv.lt
    have hB0 : B0 ≤ W.heap.size := by omega
    have hb1 : pre.length + 1 ≤ maxLen := by unfold maxLen; omega
    have hb2 : (pre.length + 1) * 8 ≤ 140737488355328 := by omega
    have hb3 : B0 ≤ (W.alloc (.cells #[Value.int .i64 ((x : Nat) : Int)] 3)).heap.size := by simp; omega
    have hb4 : ∀ u ∈ [Value.int .i64 ((x : Nat) : Int)], u.oneCell' = true := by simp [Value.oneCell']
    gi_wp2_with (gi_at_builtin; refine wpListIn_append_own _ rfl _ _ 64 rfl B0 3 i0 (.int .i64 0) 1 8 Tryz.underlying64 hi hz0 hz1 hz2 rfl Nat.one_pos _ _ _ rfl (hrow.alloc _) ⟨W.heap.size, 0, none⟩ 1 1 [.int .i64 ((x : Nat) : Int)] rfl rfl (cell_one_new _ _ _) hb4 hb1 hb2 hb3 ?_; intro v' w1' hown' hgrow _; obtain ⟨g', cap', rfl⟩ := ownsRow_succ hown'; obtain ⟨hv1, hv2, hr2, hk2, hb2'⟩ := hv.appended (by decide) hrow hB0 (Nat.le_refl _) hown' hgrow; have hc1 := hv1.cell; have hf1 := hv1.frozen)
    have hgrow' : (W.alloc (.cells #[Value.int .i64 ((x : Nat) : Int)] 3)).grownBy w1' v.ownBlock := hgrow
    have hkS := (Keep.refl (fun b => b = B0) w1').setCell (a := ⟨B0, 0, none⟩) (.slice (some ⟨g', 0, none⟩) (pre.length + 1) cap') (fun _ => rfl)
    have key : ∀ q y, OpnAt W q y → OpnAt (w1'.setCell ⟨B0, 0, none⟩ (.slice (some ⟨g', 0, none⟩) (pre.length + 1) cap')) q y := fun q y hq => by
      refine ((hq.keep (S := fun _ => False) ((Keep.refl _ _).alloc _) id).keep (Keep.grown hgrow') (fun hh => ?_)).keep hkS (fun hh => ?_)
      · rcases hrow.2 with ⟨hz1, _⟩ | ⟨gg, cc, cur, hz1, _, hz3, _⟩
        · rw [hz1] at hh; cases hh
        · rw [hz1] at hh
          have hgg : q = gg := Option.some.inj hh
          subst hgg
          exact absurd (Obj.cells.inj (Option.some.inj (hq.symm.trans hz3))).2.1 (by decide)
      · subst hh
        exact absurd (Obj.cells.inj (Option.some.inj (hq.symm.trans hv))).2.1 (by decide)
    refine ⟨hk2.from _, fun ob hob => ?_, ⟨_, hv2, ?_, trivial⟩, hB.trans hb2', key _ _ hqb, key _ _ hqo⟩
    · rw [← hob, hqb]; exact key _ _ hqb
    · have : ints (pre.map fun n => ((n : Nat) : Int)) ++ [Value.int .i64 ((x : Nat) : Int)] = ints ((pre ++ [x]).map fun n => ((n : Nat) : Int)) := by simp [ints]
      rw [this] at hr2
      simpa using hr2
  case done =>
    rintro D ys W hD rfl ⟨⟨v, hv, hrow, _⟩, hB, hqb, hqo⟩ hK
    have hc := hv.cell
    have hc14 := hqo.cell (j := 14) (by omega)
    rw [show o.cell 14 = o.ind from rfl] at hc14
    have hxp : ∀ {u : Value} {l : List Int} {W' : World}, Below B0 w2 W' → W'.ownsRow B0 3 1 u l.length (ints l) → W'.heap[D]? = some (.deferred (some [])) → l = pgB F I.length j →
        ∃ u' G', Ending.returned (Value.tuple #[u, .int .i64 0]) = .returned (.tuple #[u', .int .i64 0]) ∧ (W'.putObj D (.deferred none)).ownsRow w.heap.size 3 1 u' (pgB F I.length j).length (ints (pgB F I.length j)) ∧ OwnR ρ G' u' ∧ Ext (fun x => x = μ) G w G' (W'.putObj D (.deferred none)) ∧ Ino G' κ μ (W'.putObj D (.deferred none)) s m p lq came c P I F B := by
      intro u l W' hB' hrow' hK' hlp
      have hD' : B0 ≤ D := by omega
      have hB2 : Below B0 w2 (W'.putObj D (.deferred none)) := hB'.trans (belowK_b (w := w2) (by omega) W' D _ _ (by omega) hK' rfl rfl)
      have hgw : Grow w2 (W'.putObj D (.deferred none)) := ⟨hB2.os, hB2.tape, hB2.output, hB2.size, fun b hb _ => hB2.block b (by omega)⟩
      have hxu : Ext0 G2 w2 (G2.upto w2.heap.size (fun _ => ρ) (fun _ => 0)) (W'.putObj D (.deferred none)) := .upto hgw _ _
      have hr2 := ownsRow_putObj hrow' (.deferred none) hK' rfl
      rw [hlp] at hr2
      refine ⟨u, _, rfl, own_base hr2 (by have := hx02.size; omega), fun b hb => upto_own (by have := (World.ownsRow.lt hr2 b hb).1; omega), hx02.trans (hxu.mono (fun _ h => h.elim)), h2.ext hxu id id id⟩
    by_cases hind : o.ind = 0
    · rw [hind, show ((0 : Nat) : Int) = 0 from rfl] at hc14
      have hpg : o.data.map (fun n => ((n : Nat) : Int)) = pgB F I.length j := by
        unfold pgB
        rw [if_neg (by simpa using hl), ho, Opn.own, if_pos hind, List.append_nil]
      have hfin := hxp (l := o.data.map fun n => ((n : Nat) : Int)) hB (by rw [List.length_map]; exact hrow) hK hpg
      gi_wp2
      refine ⟨by simp, .inl ⟨_, _, rfl, run_takeDeferred hK, ?_⟩⟩
      refine ⟨_, results_tmp2 rfl _ _ _, ?_⟩
      simpa using hfin
    · have hni : ((o.ind : Nat) : Int) ≠ 0 := by omega
      have hpg : o.data.map (fun n => ((n : Nat) : Int)) ++ [((o.ind : Nat) : Int)] = pgB F I.length j := by
        unfold pgB
        rw [if_neg (by simpa using hl), ho, Opn.own, if_neg hind]
        simp
      have hvB := hv.lt
      have hBs := hB.size
      have hB0 : B0 ≤ W.heap.size := by omega
      have hb1 : o.data.length + 1 ≤ maxLen := by unfold maxLen; omega
      have hb2 : (o.data.length + 1) * 8 ≤ 140737488355328 := by omega
      have hb3 : B0 ≤ (W.alloc (.cells #[Value.int .i64 ((o.ind : Nat) : Int)] 3)).heap.size := by simp; omega
      have hb4 : ∀ u ∈ [Value.int .i64 ((o.ind : Nat) : Int)], u.oneCell' = true := by simp [Value.oneCell']
      gi_wp2_with (gi_at_builtin; refine wpListIn_append_own _ rfl _ _ 64 rfl B0 3 i0 (.int .i64 0) 1 8 Tryz.underlying64 hi hz0 hz1 hz2 rfl Nat.one_pos _ _ _ rfl (hrow.alloc _) ⟨W.heap.size, 0, none⟩ 1 1 [.int .i64 ((o.ind : Nat) : Int)] rfl rfl (cell_one_new _ _ _) hb4 hb1 hb2 hb3 ?_; intro v' w1' hown' hgrow _; obtain ⟨g', cap', rfl⟩ := ownsRow_succ hown'; obtain ⟨hv1, hv2, hr2, hk2, hb2'⟩ := hv.appended (by decide) hrow hB0 (Nat.le_refl _) hown' hgrow; have hc1 := hv1.cell; have hf1 := hv1.frozen; have hcn := hv2.cell)
      have hK2 := hk2.same D _ hK rfl
      have hi2 : ints (o.data.map fun n => ((n : Nat) : Int)) ++ [Value.int .i64 ((o.ind : Nat) : Int)] = ints (o.data.map (fun n => ((n : Nat) : Int)) ++ [((o.ind : Nat) : Int)]) := by simp [ints]
      rw [hi2] at hr2
      have hfin := hxp (l := o.data.map (fun n => ((n : Nat) : Int)) ++ [((o.ind : Nat) : Int)]) (hB.trans hb2') (by rw [List.length_append, List.length_map]; exact hr2) hK2 hpg
      refine ⟨by simp, .inl ⟨_, _, rfl, run_takeDeferred hK2, ?_⟩⟩
      refine ⟨_, results_tmp2 rfl _ _ _, ?_⟩
      simpa using hfin
  case stop =>
    rintro D c pre W _ _ h _
    exact h.elim
theorem ipages_file_spec {ρ : Nat} (h : Ino G κ μ w s m p lq came c P I F B) (hρ : ρ ≠ 0 ∧ ρ ≠ κ ∧ ρ ≠ μ) {i : Int} :
    Calls Tryz.prog 29 #[.pointer (some ⟨s, 0, none⟩), .int .i64 i] w (Ret fun v w' => ∃ u G', v = .tuple #[u, .int .i64 (lookC F I.length i)] ∧ w'.ownsRow w.heap.size 3 1 u (pgB F I.length i).length (ints (pgB F I.length i)) ∧ OwnR ρ G' u ∧
      Ext (fun x => x = μ) G w G' w' ∧ Ino G' κ μ w' s m p lq came c P I F B) :=
  (callsIn_wide.1 (ipages_in_spec h hρ)).mono fun e w' ⟨u, G', he, h1⟩ => by
    subst he
    exact ⟨u, G', rfl, h1⟩
end
end Go.Proofs.YtddiikeepncakaaGreat

/- AllocBack: the walk. -/
namespace Go.Proofs.YtddiikeepncakaaGreat
open Go
set_option linter.unusedSimpArgs false
open Go.RowKit (intOf)
theorem elemBo : ElemIs Tryz.prog 137 4 1 1 (.bool false) := elem_of (by kernel_rfl)
def bls (l : List Bool) : List Value := l.map .bool
theorem bls_set (l : List Bool) (i : Nat) (b : Bool) : (bls l).set i (.bool b) = bls (l.set i b) := by simp [bls, List.map_set]
/-- The caller's own row. -/
def Own6 (G : Gh) (v : Value) : Prop := ∀ b, v.ownBlock = some b → G.own b = 6 ∧ G.fix b = 0
theorem Own6.ext {K : Nat → Prop} {G G' : Gh} {w w' : World} {v : Value} {B n k : Nat} {t : TypeId} {xs : List Value} (h : Own6 G v) (hx : Ext K G w G' w') (ho : w.ownsRow B t k v n xs) (hk : ¬ K 6) : Own6 G' v := fun b hb => by
  have hlt := (World.ownsRow.lt ho b hb).2
  rw [hx.own b hlt, hx.fixe b hlt (by rw [(h b hb).1]; exact hk)]
  exact h b hb
end Go.Proofs.YtddiikeepncakaaGreat

/- The reference's map: rows of bools. -/
namespace Go.Proofs.YtddiikeepncakaaGreat
open Go
set_option linter.unusedSimpArgs false
open Go.RowKit (intOf)
/-- The reference's map in memory. -/
structure RM (G : Gh) (μ : Nat) (w : World) (r : Nat) (P I : List Bool) : Prop where
  ne0 : μ ≠ 0
  own : G.own r = μ
  fix : G.fix r = 0
  p4 : P.length ≤ 4096
  i5 : I.length ≤ 512
  at_ : ∃ pv iv, w.heap[r]? = some (.cells #[.int .i64 P.length, .int .i64 I.length, pv, iv] 139 (0, 0)) ∧ Zero G w pv (bls P) ∧ Zero G w iv (bls I)
section
variable {G G' : Gh} {μ r : Nat} {w w' : World} {P I : List Bool}
theorem RM.ext {K : Nat → Prop} (h : RM G μ w r P I) (hx : Ext K G w G' w') (hm : ¬ K μ) (h0 : ¬ K 0) : RM G' μ w' r P I := by
  obtain ⟨h1, h2, h3, h4, h5, pv, iv, h6, h7, h8⟩ := h
  have hlt := hx.lt h6
  exact ⟨h1, by rw [hx.own r hlt]; exact h2, by rw [hx.fixe r hlt (by rw [h2]; exact hm)]; exact h3, h4, h5, pv, iv, hx.heap h6 (by rw [h2]; exact hm), h7.ext hx h0, h8.ext hx h0⟩
theorem RM.grow (h : RM G μ w r P I) (hg : Grow w w') : RM G μ w' r P I := h.ext (K := fun _ => False) (.grow hg) id id
theorem RM.cells (h : RM G μ w r P I) : ∃ pv iv, Has 1 w pv (bls P) ∧ Has 1 w iv (bls I) ∧ ∀ {w'}, Grow w w' → w'.cell? ⟨r, 0, none⟩ = some (.int .i64 P.length) ∧ w'.cell? ⟨r, 1, none⟩ = some (.int .i64 I.length) ∧ w'.cell? ⟨r, 2, none⟩ = some pv ∧ w'.cell? ⟨r, 3, none⟩ = some iv := by
  obtain ⟨h1, h2, h3, h4, h5, pv, iv, h6, h7, h8⟩ := h
  refine ⟨pv, iv, h7.1, h8.1, fun hg => ?_⟩
  have h6' := hg.gheap h6
  exact ⟨by rw [cell_block h6']; rfl, by rw [cell_block h6']; rfl, by rw [cell_block h6']; rfl, by rw [cell_block h6']; rfl⟩
theorem rinodes_spec (h : RM G μ w r P I) : Calls Tryz.prog 80 #[.pointer (some ⟨r, 0, none⟩)] w (Ret fun v w' => v = .int .i64 I.length ∧ w' = w) := by
  obtain ⟨pv, iv, hp, hi, hc⟩ := h.cells
  apply enter80
  apply R_in
  simp (maxSteps := 1000000) (disch := omega) only [↓sy1, sy2, sy3, readOK, sy5, sy6, Nat.reduceEqDiff, ↓reduceIte, sy7, sy8, sy9, sya, oneOf, syb, syc, Nat.reduceAdd, Nat.reduceMul, syd, sye, syf, syg, syh, reduceCtorEq, F80, (hc (Keep.refl _ _)).2.1]
  exact R_out trivial
end
end Go.Proofs.YtddiikeepncakaaGreat

/- The reference's map is made. -/
namespace Go.Proofs.YtddiikeepncakaaGreat
open Go
set_option linter.unusedSimpArgs false
open Go.RowKit (intOf)
theorem upto1_zero (N : Nat) : upto1 0 N = List.replicate N false := by
  refine List.ext_getElem? fun i => ?_
  by_cases hi : i < N
  · rw [upto1_get hi, List.getElem?_replicate, if_pos hi, decide_eq_false (by omega)]
  · rw [List.getElem?_eq_none (by rw [upto1_length]; omega), List.getElem?_eq_none (by rw [List.length_replicate]; omega)]
theorem rfirstc_spec {w : World} {r k : Nat} (hc : w.cell? ⟨r, 1, none⟩ = some (.int .i64 k)) (hk : k ≤ 100000) : Calls Tryz.prog 79 #[.pointer (some ⟨r, 0, none⟩)] w (Ret fun v w' => v = .int .i64 ((3 + k / 8 : Nat) : Int) ∧ w' = w) := by
  apply enter79
  apply R_in
  simp (maxSteps := 1000000) (disch := omega) only [↓sy1, sy2, sy3, readOK, sy5, sy6, Nat.reduceEqDiff, ↓reduceIte, sy7, sy8, sy9, sya, oneOf, syb, syc, Nat.reduceAdd, Nat.reduceMul, syd, sye, syf, syg, syh, reduceCtorEq, F79, hc, tdiv8]
  exact R_out (congrArg (Value.int .i64) (by omega))
theorem fillF_4 {a b c d x y z u : Value} (hx : isCell x = true) (hy : isCell y = true) (hz : isCell z = true) (hu : isCell u = true) : fillF #[a, b, c, d] [(0, 1, x), (1, 1, y), (2, 1, z), (3, 1, u)] = some #[x, y, z, u] := by
  rw [fillF_cell hx (by simp), fillF_cell hy (by simp), fillF_cell hz (by simp), fillF_cell hu (by simp), fillF_nil]; simp
/-- So many bools are made. -/
theorem mkb_rule {k : Kont} {e : Env} {w : World} {l : List GOp} {d : Option Nat} {x y : Operand} {n : Nat} {ty : TypeId} (hx : ev e x = .int .i64 n) (hy : ev e y = .int .i64 n) (hn : n ≤ 5000) (hh : ∀ v w', Grow w w' → w'.ownsRow w.heap.size 4 1 v n (bls (List.replicate n false)) → R (symOps Tryz.prog l k (updO e d v) w')) :
    R (symOps Tryz.prog (⟨d, .hard (H (.makeSlice 137 x y) ty), none⟩ :: l) k e w) := by
  refine mk_rule elemBo (kx := .i64) (ky := .i64) (a := n) (c := n) hx hy (by omega) (by omega) (by omega) (by omega) rfl ?_
  rw [show ((n : Int)).toNat = n from rfl]
  refine hh _ _ ((Keep.refl _ _).alloc _) ?_
  have ho7 := own_made w w.heap.size (Nat.le_refl _) 4 n (by omega) (.bool false)
  rw [show bls (List.replicate n false) = List.replicate n (.bool false) from List.map_replicate]; exact ho7
set_option maxHeartbeats 4000000 in
theorem rmake_spec {w : World} {N k : Nat} (G : Gh) (μ : Nat) (hμ : μ ≠ 0) (hk : mayA N k) :
    Calls Tryz.prog 37 #[.int .i64 N, .int .i64 k] w (Ret fun v w' => ∃ r G', v = .tuple #[.pointer (some ⟨r, 0, none⟩), .int .i64 0] ∧ RM G' μ w' r (upto1 (3 + k / 8) N) (upto1 1 k) ∧ Ext0 G w G' w') := by
  apply enter37
  apply R_in
  have hk' := hk
  unfold mayA at hk'
  simp (maxSteps := 1000000) (disch := omega) only [↓sy1, sy2, sy3, readOK, sy5, sy6, Nat.reduceEqDiff, ↓reduceIte, sy7, sy8, sy9, sya, oneOf, syb, syc, Nat.reduceAdd, Nat.reduceMul, syd, sye, syf, syg, syh, reduceCtorEq, F37, show ¬ ((k : Int) < 8) from by omega, show ¬ ((512 : Int) < (k : Int)) from by omega, decide_true, decide_false, tmod8, tdiv8, show (((k % 8 : Nat) : Int) = 0) from by omega, show ¬ ((4096 : Int) < (N : Int)) from by omega, show ¬ ((N : Int) ≤ 3 + ((k / 8 : Nat) : Int)) from by omega]
  refine draw37_0 (fun _ => False) ?_
  have hgd : Grow w w.drew := (Keep.refl _ _).drew
  generalize hw0 : w.drew = w0 at hgd ⊢
  have hB0 := hgd.size
  clear hw0
  simp (maxSteps := 1000000) (disch := omega) only [↓sy1, sy2, sy3, readOK, sy5, sy6, Nat.reduceEqDiff, ↓reduceIte, sy7, sy8, sy9, sya, oneOf, syb, syc, Nat.reduceAdd, Nat.reduceMul, syd, sye, syf, syg, syh, reduceCtorEq, PL37_0]
  have fin : ∀ (e : Env) (w2 : World) (pv iv : Value), Grow w w2 → w2.ownsRow w.heap.size 4 1 pv N (bls (List.replicate N false)) → w2.ownsRow w.heap.size 4 1 iv k (bls (List.replicate k false)) → (∀ b, pv.ownBlock = some b → iv.ownBlock ≠ some b) →
      e 6 = .pointer (some ⟨w2.heap.size, 0, none⟩) → R (symS 56 Tryz.prog ((((SCode.ops [⟨some 7, .mv (.const (.int .i64 0)), none⟩]).seq (SCode.block 0 (.loop F37_L0))).seq
        ((SCode.ops [⟨some 50, .mv (.tmp 6), none⟩, ⟨some 51, .nilc (.tmp 50), none⟩, ⟨some 52, .fa 3 (.tmp 51), none⟩, ⟨some 53, .ld (.tmp 52), none⟩, ⟨some 54, .ia 1 (.tmp 53) (.const (.int .i64 0)), none⟩, ⟨none, .st (.tmp 54) (.const (.bool true)), none⟩]).seq
          ((SCode.ops [⟨some 55, .mv (.tmp 6), none⟩, ⟨some 4, .mv (.tmp 55), none⟩, ⟨some 5, .mv (.const (.int .i64 0)), none⟩]).seq SCode.ret))))
        ⟨fun e w_1 => ∃ r G', Value.tuple #[e 4, e 5] = .tuple #[.pointer (some ⟨r, 0, none⟩), .int .i64 0] ∧ RM G' μ w_1 r (upto1 (3 + k / 8) N) (upto1 1 k) ∧ Ext0 G w G' w_1, fun _ _ _ => False, fun e w_1 => ∃ r G', Value.tuple #[e 4, e 5] = .tuple #[.pointer (some ⟨r, 0, none⟩), .int .i64 0] ∧ RM G' μ w_1 r (upto1 (3 + k / 8) N) (upto1 1 k) ∧ Ext0 G w G' w_1, NoPanic⟩ e (w2.alloc (.cells #[.int .i64 N, .int .i64 k, pv, iv] 139))) := by
    intro e w2 pv iv hg2 hp hi hne e6
    have hg3 : Grow w2 (w2.alloc (.cells #[.int .i64 N, .int .i64 k, pv, iv] 139)) := (Keep.refl _ _).alloc _
    have hb3 := heap_alloc_new w2 (.cells #[.int .i64 N, .int .i64 k, pv, iv] 139)
    have hr := hg2.size
    generalize w2.alloc (.cells #[.int .i64 N, .int .i64 k, pv, iv] 139) = w3 at hg3 hb3 ⊢
    have hp3 := own_grow hp hg3
    have hi3 := own_grow hi hg3
    have hpr : ∀ b, pv.ownBlock = some b → b ≠ w2.heap.size := fun b hb => by have := (World.ownsRow.lt hp b hb).2; omega
    have hir : ∀ b, iv.ownBlock = some b → b ≠ w2.heap.size := fun b hb => by have := (World.ownsRow.lt hi b hb).2; omega
    have hg03 := hg2.trans hg3
    generalize w2.heap.size = r at hb3 e6 hr hpr hir
    rw [← upto1_zero] at hp3 hi3
    simp (maxSteps := 1000000) (disch := omega) only [↓sy1, sy2, sy3, readOK, sy5, sy6, Nat.reduceEqDiff, ↓reduceIte, sy7, sy8, sy9, sya, oneOf, syb, syc, Nat.reduceAdd, Nat.reduceMul, syd, sye, syf, syg, syh, reduceCtorEq]
    refine loop_rule (fun e w' => ∃ i : Nat, i ≤ 3 + k / 8 ∧ e 7 = .int .i64 i ∧ e 6 = .pointer (some ⟨r, 0, none⟩) ∧ w'.heap[r]? = some (.cells #[.int .i64 N, .int .i64 k, pv, iv] 139 (0, 0)) ∧ w'.ownsRow w.heap.size 4 1 pv N (bls (upto1 i N)) ∧ w'.ownsRow w.heap.size 4 1 iv k (bls (upto1 0 k)) ∧ Grow w w') (fun e _ => 3 + k / 8 - (intOf (e 7)).toNat)
      ⟨0, by omega, by simp [upd, updO, ev], by simp [upd, updO, ev, e6], hb3, hp3, hi3, hg03⟩ ?_
    clear hb3 hp3 hi3 hg03 hp hi hg2 hg3 e6
    rintro e w4 ⟨i, hi', e7, e6, hb4, hp4, hi4, hg4⟩
    have hc1 : w4.cell? ⟨r, 1, none⟩ = some (.int .i64 k) := by rw [cell_block hb4]; rfl
    have hc2 : w4.cell? ⟨r, 2, none⟩ = some pv := by rw [cell_block hb4]; rfl
    have hc3 : w4.cell? ⟨r, 3, none⟩ = some iv := by rw [cell_block hb4]; rfl
    by_cases hlt : i < 3 + k / 8
    · obtain ⟨a, w5, ha, hst, hp5, hk5, _⟩ := own_store hp4 (i := i) (by omega) (u := .bool true) rfl
      rw [bls_set, upto1_set (by omega)] at hp5
      simp (maxSteps := 1000000) (disch := omega) only [↓sy1, sy2, sy3, readOK, sy5, sy6, Nat.reduceEqDiff, ↓reduceIte, sy7, sy8, sy9, sya, oneOf, syb, syc, Nat.reduceAdd, Nat.reduceMul, syd, sye, syf, syg, syh, reduceCtorEq, F37_L0, e7, e6]
      refine call0 (rfirstc_spec hc1 (by omega)) ?_
      rintro _ w4 ⟨rfl, rfl⟩
      simp (maxSteps := 1000000) (disch := omega) only [↓sy1, sy2, sy3, readOK, sy5, sy6, Nat.reduceEqDiff, ↓reduceIte, sy7, sy8, sy9, sya, oneOf, syb, syc, Nat.reduceAdd, Nat.reduceMul, syd, sye, syf, syg, syh, reduceCtorEq, e7, e6, Int.ofNat_lt, hlt, decide_true, hc2, ha, hst]
      exact R_out ⟨⟨i + 1, by omega, rfl, hk5.heap hb4 (fun hh => hpr _ hh rfl), hp5, own_keep hi4 hk5 (fun b hb hh => hne b hh hb), hg4.then hk5 (fun b hb hh => by have := (World.ownsRow.lt hp4 b hh).1; omega)⟩, by simp only [intOf]; omega⟩
    · have hie : i = 3 + k / 8 := by omega
      subst hie
      obtain ⟨a, w5, ha, hst, hi5, hk5, _⟩ := own_store hi4 (i := 0) (by omega) (u := .bool true) rfl
      have ha : iaF 1 iv (.int .i64 0) = some (.pointer (some a)) := ha
      rw [bls_set, upto1_set (by omega)] at hi5
      have hp5 := own_keep hp4 hk5 (fun b hb hh => hne b hb hh)
      have hb5 := hk5.heap hb4 (fun hh => hir _ hh rfl)
      have hg5 : Grow w w5 := hg4.then hk5 (fun b hb hh => by have := (World.ownsRow.lt hi4 b hh).1; omega)
      simp (maxSteps := 1000000) (disch := omega) only [↓sy1, sy2, sy3, readOK, sy5, sy6, Nat.reduceEqDiff, ↓reduceIte, sy7, sy8, sy9, sya, oneOf, syb, syc, Nat.reduceAdd, Nat.reduceMul, syd, sye, syf, syg, syh, reduceCtorEq, F37_L0, e7, e6]
      refine call0 (rfirstc_spec hc1 (by omega)) ?_
      rintro _ w4 ⟨rfl, rfl⟩
      simp (maxSteps := 1000000) (disch := omega) only [↓sy1, sy2, sy3, readOK, sy5, sy6, Nat.reduceEqDiff, ↓reduceIte, sy7, sy8, sy9, sya, oneOf, syb, syc, Nat.reduceAdd, Nat.reduceMul, syd, sye, syf, syg, syh, reduceCtorEq, e7, e6, Int.ofNat_lt, Nat.lt_irrefl, decide_false, hc3, ha, hst]
      have hx : Ext0 G w (G.upto w.heap.size (fun b => if b = r then μ else 0) (fun _ => 0)) w5 := .upto hg5 _ _
      have hown : ∀ b, w.heap.size ≤ b → b ≠ r → (G.upto w.heap.size (fun b => if b = r then μ else 0) (fun _ => 0)).own b = 0 := fun b hb hbr => by simp [Gh.upto, Nat.not_lt.2 hb, hbr]
      refine R_out ⟨r, _, rfl, ⟨hμ, by simp [Gh.upto, Nat.not_lt.2 hr], by simp [Gh.upto, Nat.not_lt.2 hr], by rw [upto1_length]; omega, by rw [upto1_length]; omega, pv, iv, ?_, ⟨Has.own hp5, fun b hb _ => ⟨(World.ownsRow.lt hp5 b hb).2, hown b (World.ownsRow.lt hp5 b hb).1 (hpr b hb)⟩⟩, ⟨Has.own hi5, fun b hb _ => ⟨(World.ownsRow.lt hi5 b hb).2, hown b (World.ownsRow.lt hi5 b hb).1 (hir b hb)⟩⟩⟩, hx⟩
      rw [upto1_length, upto1_length]; exact hb5
  refine ⟨mkb_rule (n := N) (by simp only [upd_at, Nat.reduceEqDiff, reduceIte, ev_tmp, ev_const, List.map_cons, List.map_nil]) (by simp only [upd_at, Nat.reduceEqDiff, reduceIte, ev_tmp, ev_const, List.map_cons, List.map_nil]) (by omega) (fun pv w1 hg1 hp => ?_), mkb_rule (n := k) (by simp only [upd_at, Nat.reduceEqDiff, reduceIte, ev_tmp, ev_const, List.map_cons, List.map_nil]) (by simp only [upd_at, Nat.reduceEqDiff, reduceIte, ev_tmp, ev_const, List.map_cons, List.map_nil]) (by omega) (fun iv w1 hg1 hi => ?_)⟩
  · simp (maxSteps := 1000000) (disch := omega) only [↓sy1, sy2, sy3, readOK, sy5, sy6, Nat.reduceEqDiff, ↓reduceIte, sy7, sy8, sy9, sya, oneOf, syb, syc, Nat.reduceAdd, Nat.reduceMul, syd, sye, syf, syg, syh, reduceCtorEq]
    refine mkb_rule (n := k) (by simp only [upd_at, Nat.reduceEqDiff, reduceIte, ev_tmp, ev_const, List.map_cons, List.map_nil]) (by simp only [upd_at, Nat.reduceEqDiff, reduceIte, ev_tmp, ev_const, List.map_cons, List.map_nil]) (by omega) (fun iv w2 hg2 hi => ?_)
    have hpc := (Has.own hp).isCell
    have hic := (Has.own hi).isCell
    have hne : ∀ b, pv.ownBlock = some b → iv.ownBlock ≠ some b := fun b hb hh => by
      have := (World.ownsRow.lt hp b hb).2
      have := (World.ownsRow.lt hi b hh).1; omega
    have hg1s := hg1.size
    simp (maxSteps := 1000000) (disch := omega) only [↓sy1, sy2, sy3, readOK, sy5, sy6, Nat.reduceEqDiff, ↓reduceIte, sy7, sy8, sy9, sya, oneOf, syb, syc, Nat.reduceAdd, Nat.reduceMul, syd, sye, syf, syg, syh, reduceCtorEq, fill_gen, List.map_cons, List.map_nil, fillF_4 (x := .int .i64 (N : Int)) (y := .int .i64 (k : Int)) (z := pv) (u := iv) rfl rfl hpc hic, agg4_cells (x := .int .i64 (N : Int)) (y := .int .i64 (k : Int)) (z := pv) (u := iv) rfl rfl hpc hic]
    refine fin _ w2 pv iv ((hgd.trans hg1).trans hg2) (own_base (own_grow hp hg2) (by omega)) (own_base hi (by omega)) hne ?_
    simp [upd]
  · simp (maxSteps := 1000000) (disch := omega) only [↓sy1, sy2, sy3, readOK, sy5, sy6, Nat.reduceEqDiff, ↓reduceIte, sy7, sy8, sy9, sya, oneOf, syb, syc, Nat.reduceAdd, Nat.reduceMul, syd, sye, syf, syg, syh, reduceCtorEq]
    refine mkb_rule (n := N) (by simp only [upd_at, Nat.reduceEqDiff, reduceIte, ev_tmp, ev_const, List.map_cons, List.map_nil]) (by simp only [upd_at, Nat.reduceEqDiff, reduceIte, ev_tmp, ev_const, List.map_cons, List.map_nil]) (by omega) (fun pv w2 hg2 hp => ?_)
    have hpc := (Has.own hp).isCell
    have hic := (Has.own hi).isCell
    have hne : ∀ b, pv.ownBlock = some b → iv.ownBlock ≠ some b := fun b hb hh => by
      have := (World.ownsRow.lt hp b hb).1
      have := (World.ownsRow.lt hi b hh).2; omega
    have hg1s := hg1.size
    simp (maxSteps := 1000000) (disch := omega) only [↓sy1, sy2, sy3, readOK, sy5, sy6, Nat.reduceEqDiff, ↓reduceIte, sy7, sy8, sy9, sya, oneOf, syb, syc, Nat.reduceAdd, Nat.reduceMul, syd, sye, syf, syg, syh, reduceCtorEq, fill_gen, List.map_cons, List.map_nil, fillF_4 (x := .int .i64 (N : Int)) (y := .int .i64 (k : Int)) (z := pv) (u := iv) rfl rfl hpc hic, agg4_cells (x := .int .i64 (N : Int)) (y := .int .i64 (k : Int)) (z := pv) (u := iv) rfl rfl hpc hic]
    refine fin _ w2 pv iv ((hgd.trans hg1).trans hg2) (own_base hp (by omega)) (own_base (own_grow hi hg2) (by omega)) hne ?_
    simp [upd]
end Go.Proofs.YtddiikeepncakaaGreat

/- The reference's files in memory, in few words; a new one; what is committed and forgotten. -/
namespace Go.Proofs.YtddiikeepncakaaGreat
open Go
set_option linter.unusedSimpArgs false
open Go.RowKit (intOf)
def zfile : List Value := [.int .i64 0, .int .i64 0, .int .i64 0, .slice none 0 0, .slice none 0 0, .int .i64 0]
theorem elemRF : ElemIs Tryz.prog 100 105 6 80 (.agg zfile.toArray) := elem_of (by kernel_rfl)
/-- A row that stays. -/
def ZeroK (k : Nat) (G : Gh) (w : World) (v : Value) (xs : List Value) : Prop := Has k w v xs ∧ ∀ b, v.ownBlock = some b → xs ≠ [] → b < w.heap.size ∧ G.own b = 0
theorem ZeroK.ext {k : Nat} {K : Nat → Prop} {G G' : Gh} {w w' : World} {v : Value} {xs : List Value} (h : ZeroK k G w v xs) (hx : Ext K G w G' w') (h0 : ¬ K 0) : ZeroK k G' w' v xs := by
  refine ⟨h.1.keep hx.keep (fun b hb hne => by rw [(h.2 b hb hne).2]; exact h0), fun b hb hne => ?_⟩
  obtain ⟨h1, h2⟩ := h.2 b hb hne
  exact ⟨Nat.lt_of_lt_of_le h1 hx.size, by rw [hx.own b h1]; exact h2⟩
/-- The cells of a file. -/
def RF (G : Gh) (w : World) (cs : List Value) : Prop := ∃ (kd md ln ind : Int) (bv dv : Value) (b : List UInt8) (d : List Int), cs = [.int .i64 kd, .int .i64 md, .int .i64 ln, bv, dv, .int .i64 ind] ∧ Zero G w bv (bs b) ∧ Zero G w dv (ints d) ∧ b.length ≤ 70656 ∧ d.length ≤ 138
theorem RF.ext {K : Nat → Prop} {G G' : Gh} {w w' : World} {cs : List Value} (h : RF G w cs) (hx : Ext K G w G' w') (h0 : ¬ K 0) : RF G' w' cs := by
  obtain ⟨kd, md, ln, ind, bv, dv, b, d, rfl, h1, h2, h3, h4⟩ := h
  exact ⟨kd, md, ln, ind, bv, dv, b, d, rfl, h1.ext hx h0, h2.ext hx h0, h3, h4⟩
theorem RF.zero (G : Gh) (w : World) : RF G w zfile := ⟨0, 0, 0, 0, _, _, [], [], rfl, ⟨Has.nil _ _, fun b hb => by cases hb⟩, ⟨Has.nil _ _, fun b hb => by cases hb⟩, by simp, by simp⟩
theorem RF.len {G : Gh} {w : World} {cs : List Value} (h : RF G w cs) : cs.length = 6 := by obtain ⟨_, _, _, _, _, _, _, _, rfl, _⟩ := h; rfl
theorem RF.cells {G : Gh} {w : World} {cs : List Value} (h : RF G w cs) : ∀ u ∈ cs, isCell u = true := by
  obtain ⟨kd, md, ln, ind, bv, dv, b, d, rfl, h1, h2, h3, h4⟩ := h
  intro u hu
  simp at hu
  rcases hu with rfl | rfl | rfl | rfl | rfl | rfl
  · rfl
  · rfl
  · rfl
  · exact h1.1.isCell
  · exact h2.1.isCell
  · rfl
/-- So many files. -/
def RFs (G : Gh) (w : World) (v : Value) (k : Nat) : Prop := ∃ css : List (List Value), css.length = k ∧ ZeroK 6 G w v css.flatten ∧ ∀ cs ∈ css, RF G w cs
theorem RFs.ext {k : Nat} {K : Nat → Prop} {G G' : Gh} {w w' : World} {v : Value} (h : RFs G w v k) (hx : Ext K G w G' w') (h0 : ¬ K 0) : RFs G' w' v k := by
  obtain ⟨css, h1, h2, h3⟩ := h
  exact ⟨css, h1, h2.ext hx h0, fun cs hc => (h3 cs hc).ext hx h0⟩
theorem flat6 : ∀ {css : List (List Value)}, (∀ cs ∈ css, cs.length = 6) → css.flatten.length = css.length * 6
  | [], _ => rfl
  | c :: css, h => by
    rw [List.flatten_cons, List.length_append, h c (by simp), flat6 (fun cs hc => h cs (by simp [hc])), List.length_cons]; omega
theorem flat6_at : ∀ {css : List (List Value)} {i j : Nat} {cs : List Value}, (∀ cs ∈ css, cs.length = 6) → css[i]? = some cs → j < 6 → css.flatten[i * 6 + j]? = cs[j]?
  | [], i, j, cs, _, hi, _ => by simp at hi
  | c :: css, 0, j, cs, h, hi, hj => by
    simp at hi; subst hi
    rw [List.flatten_cons, List.getElem?_append_left (by rw [h c (by simp)]; omega)]
    congr 1; omega
  | c :: css, i + 1, j, cs, h, hi, hj => by
    simp at hi
    have hc := h c (by simp)
    rw [List.flatten_cons, List.getElem?_append_right (by omega), hc, show (i + 1) * 6 + j - 6 = i * 6 + j from by omega]
    exact flat6_at (fun cs hc => h cs (by simp [hc])) hi hj
theorem made6 (k : Nat) : (madeCells (Value.agg zfile.toArray).cells (k * 6)).toList = (List.replicate k zfile).flatten := by
  have hz : (Value.agg zfile.toArray).cells = zfile.toArray := rfl
  rw [hz]
  refine List.ext_getElem? fun j => ?_
  by_cases hj : j < k * 6
  · have h1 := flat6_at (css := List.replicate k zfile) (i := j / 6) (j := j % 6) (cs := zfile) (fun cs hc => by rw [(List.mem_replicate.1 hc).2]; rfl) (by rw [List.getElem?_replicate, if_pos (by omega)]) (by omega)
    rw [show j / 6 * 6 + j % 6 = j from by omega] at h1
    have hl : zfile.toArray.size = 6 := rfl
    have h2 : (madeCells zfile.toArray (k * 6)).toList[j]? = some (zfile.toArray[j % 6]!) := by
      simp [madeCells, hj, hl]
    rw [h1, h2]
    have h3 : j % 6 < 6 := by omega
    generalize j % 6 = i at h3
    match i, h3 with
    | 0, _ => rfl
    | 1, _ => rfl
    | 2, _ => rfl
    | 3, _ => rfl
    | 4, _ => rfl
    | 5, _ => rfl
  · rw [List.getElem?_eq_none (by simp [size_madeCells]; omega), List.getElem?_eq_none (by rw [flat6 (fun cs hc => by rw [(List.mem_replicate.1 hc).2]; rfl), List.length_replicate]; omega)]
/-- A map that stays. -/
structure RK (G : Gh) (w : World) (r : Nat) (P I : List Bool) : Prop where
  own : G.own r = 0
  p4 : P.length ≤ 4096
  i5 : I.length ≤ 512
  at_ : ∃ pv iv, w.heap[r]? = some (.cells #[.int .i64 P.length, .int .i64 I.length, pv, iv] 139 (0, 0)) ∧ Zero G w pv (bls P) ∧ Zero G w iv (bls I)
theorem RK.ext {K : Nat → Prop} {G G' : Gh} {w w' : World} {r : Nat} {P I : List Bool} (h : RK G w r P I) (hx : Ext K G w G' w') (h0 : ¬ K 0) : RK G' w' r P I := by
  obtain ⟨h2, h4, h5, pv, iv, h6, h7, h8⟩ := h
  have hlt := hx.lt h6
  exact ⟨by rw [hx.own r hlt]; exact h2, h4, h5, pv, iv, hx.heap h6 (by rw [h2]; exact h0), h7.ext hx h0, h8.ext hx h0⟩
/-- The reference's store: its map, its files; both as they were when all was committed last. -/
structure RS (G : Gh) (w : World) (r k : Nat) : Prop where
  own : G.own r = 11
  fix : G.fix r = 0
  at_ : ∃ M lv KM kv P I P2 I2, w.heap[r]? = some (.cells #[.pointer (some ⟨M, 0, none⟩), lv, .pointer (some ⟨KM, 0, none⟩), kv] 102 (0, 0)) ∧ RM G 8 w M P I ∧ I.length = k ∧ RK G w KM P2 I2 ∧ I2.length = k ∧ RFs G w lv k ∧ RFs G w kv k
theorem RS.ext {K : Nat → Prop} {G G' : Gh} {w w' : World} {r k : Nat} (h : RS G w r k) (hx : Ext K G w G' w') (h0 : ¬ K 0) (h8 : ¬ K 8) (h11 : ¬ K 11) : RS G' w' r k := by
  obtain ⟨h1, h2, M, lv, KM, kv, P, I, P2, I2, h3, h4, h5, h6, h7, h9, h10⟩ := h
  have hlt := hx.lt h3
  exact ⟨by rw [hx.own r hlt]; exact h1, by rw [hx.fixe r hlt (by rw [h1]; exact h11)]; exact h2, M, lv, KM, kv, P, I, P2, I2, hx.heap h3 (by rw [h1]; exact h11), h4.ext hx h8 h0, h5, h6.ext hx h0, h7, h9.ext hx h0, h10.ext hx h0⟩
section
variable {G : Gh} {w : World} {r M : Nat} {P I : List Bool}
/-- A map is copied. -/
theorem rmfork_spec {pv iv : Value} (o : Nat) (hM : w.heap[M]? = some (.cells #[.int .i64 P.length, .int .i64 I.length, pv, iv] 139 (0, 0))) (hpc : isCell pv = true) (hic : isCell iv = true) :
    Calls Tryz.prog 55 #[.pointer (some ⟨M, 0, none⟩)] w (Ret fun v w' => ∃ f, v = .pointer (some ⟨f, 0, none⟩) ∧ w.heap.size ≤ f ∧ w'.heap[f]? = some (.cells #[.int .i64 P.length, .int .i64 I.length, pv, iv] 139 (0, 0)) ∧ Grow w w') := by
  apply enter55
  apply R_in
  have hl4 := loadN4b hM
  have hg : Grow w (w.alloc (.cells (Value.agg #[.int .i64 0, .int .i64 0, .slice none 0 0, .slice none 0 0]).cells 139)) := (Keep.refl _ _).alloc _
  have hb := heap_alloc_new w (.cells (Value.agg #[.int .i64 0, .int .i64 0, .slice none 0 0, .slice none 0 0]).cells 139)
  have hcl : ∀ u ∈ [Value.int .i64 P.length, .int .i64 I.length, pv, iv], isCell u = true := by
    intro u hu
    simp at hu
    rcases hu with rfl | rfl | rfl | rfl
    · rfl
    · rfl
    · exact hpc
    · exact hic
  obtain ⟨w2, hs2, hb2, hk2⟩ := storeN_cells [Value.int .i64 P.length, .int .i64 I.length, pv, iv] _ _ 0 hb (by simp [Value.cells]) hcl
  have st2 : stnF (w.alloc (.cells (Value.agg #[.int .i64 0, .int .i64 0, .slice none 0 0, .slice none 0 0]).cells 139)) 4 (.pointer (some ⟨w.heap.size, 0, none⟩)) (.agg #[.int .i64 P.length, .int .i64 I.length, pv, iv]) = some (undef, w2) := by
    have hs2' := hs2
    simp only [stnF, Value.cells]
    show (if (4 : Nat) = 4 then _ else _) = _
    rw [if_pos rfl]
    exact congrArg (Option.map fun w => (undef, w)) hs2'
  simp (maxSteps := 1000000) (disch := omega) only [↓sy1, sy2, sy3, readOK, sy5, sy6, Nat.reduceEqDiff, ↓reduceIte, sy7, sy8, sy9, sya, oneOf, syb, syc, Nat.reduceAdd, Nat.reduceMul, syd, sye, syf, syg, syh, reduceCtorEq, F55, hl4, st2]
  refine R_out ⟨w.heap.size, rfl, Nat.le_refl _, ?_, hg.then hk2 (fun b hb hh => by omega)⟩
  rw [hb2]; rfl
end
end Go.Proofs.YtddiikeepncakaaGreat

/- The reference's store: all is kept; a new one. A disk for the laws. -/
namespace Go.Proofs.YtddiikeepncakaaGreat
open Go
set_option linter.unusedSimpArgs false
open Go.RowKit (intOf)
section
variable {G : Gh} {w : World} {r k : Nat}
/-- A store of which nothing need be kept yet. -/
structure RS0 (G : Gh) (w : World) (r k : Nat) : Prop where
  own : G.own r = 11
  fix : G.fix r = 0
  at_ : ∃ M lv kmv kv P I, w.heap[r]? = some (.cells #[.pointer (some ⟨M, 0, none⟩), lv, kmv, kv] 102 (0, 0)) ∧ RM G 8 w M P I ∧ I.length = k ∧ RFs G w lv k
theorem RS.zero (h : RS G w r k) : RS0 G w r k := by
  obtain ⟨h1, h2, M, lv, KM, kv, P, I, P2, I2, h3, h4, h5, h6, h7, h9, h10⟩ := h
  exact ⟨h1, h2, M, lv, _, kv, P, I, h3, h4, h5, h9⟩
theorem RFs.isCell {v : Value} (h : RFs G w v k) : isCell v = true := by obtain ⟨css, _, h2, _⟩ := h; exact h2.1.isCell
set_option maxHeartbeats 1000000 in
theorem rs_commit (h : RS0 G w r k) : Calls Tryz.prog 22 #[.pointer (some ⟨r, 0, none⟩)] w (Ret fun _ w' => ∃ G', RS G' w' r k ∧ Ext (fun x => x = 11) G w G' w' ∧ Keep (fun b => b = r) w w' ∧ ∀ b, b < w.heap.size → G'.own b = G.own b ∧ G'.fix b = G.fix b) := by
  obtain ⟨h1, h2, M, lv, kmv, kv, P, I, h3, h4, h5, h6⟩ := h
  obtain ⟨r1, r2, r3, r4, r5, pv, iv, hM, hpz, hiz⟩ := id h4
  apply enter22
  apply R_in
  simp (maxSteps := 1000000) (disch := omega) only [↓sy1, sy2, sy3, readOK, sy5, sy6, Nat.reduceEqDiff, ↓reduceIte, sy7, sy8, sy9, sya, oneOf, syb, syc, Nat.reduceAdd, Nat.reduceMul, syd, sye, syf, syg, syh, reduceCtorEq, F22]
  refine draw22_0 (fun _ => False) ?_
  have hgd : Grow w w.drew := (Keep.refl _ _).drew
  have hxd : Ext0 G w G w.drew := .grow hgd
  have h3d := hgd.gheap h3
  have hMd := hgd.gheap hM
  generalize w.drew = w0 at hgd hxd h3d hMd ⊢
  have hc0 : w0.cell? ⟨r, 0, none⟩ = some (.pointer (some ⟨M, 0, none⟩)) := by rw [cell_block h3d]; rfl
  have hc1 : w0.cell? ⟨r, 1, none⟩ = some lv := by rw [cell_block h3d]; rfl
  simp (maxSteps := 1000000) (disch := omega) only [↓sy1, sy2, sy3, readOK, sy5, sy6, Nat.reduceEqDiff, ↓reduceIte, sy7, sy8, sy9, sya, oneOf, syb, syc, Nat.reduceAdd, Nat.reduceMul, syd, sye, syf, syg, syh, reduceCtorEq, PL22_0, hc0, hc1]
  refine call0 (rmfork_spec 0 hMd hpz.1.isCell hiz.1.isCell) ?_
  rintro _ w1 ⟨f, rfl, hf, hF, hg1⟩
  have hx1 : Ext0 G w (G.upto w0.heap.size (fun _ => 0) (fun _ => 0)) w1 := hxd.trans (.upto hg1 _ _)
  have hof := upto_own (G := G) (o := 0) (f := 0) hf
  have hrl : r < w.heap.size := (Array.getElem?_eq_some_iff.1 h3).1
  have hgf : ∀ b, b < w.heap.size → (G.upto w0.heap.size (fun _ => 0) (fun _ => 0)).own b = G.own b ∧ (G.upto w0.heap.size (fun _ => 0) (fun _ => 0)).fix b = G.fix b := fun b hb => ⟨hx1.own b hb, hx1.fixe b hb id⟩
  have hk1 : Keep (fun b => b = r) w w1 := (hgd.trans hg1).grow
  have ho : (G.upto w0.heap.size (fun _ => 0) (fun _ => 0)).own r = 11 ∧ (G.upto w0.heap.size (fun _ => 0) (fun _ => 0)).fix r = 0 := by
    rw [hx1.own r hrl, hx1.fixe r hrl id]; exact ⟨h1, h2⟩
  have h4' := h4.ext hx1 id id
  have h6' := h6.ext hx1 id
  have hK : RK (G.upto w0.heap.size (fun _ => 0) (fun _ => 0)) w1 f P I := ⟨hof.1, r4, r5, pv, iv, hF, hpz.ext hx1 id, hiz.ext hx1 id⟩
  have h3' := hg1.gheap h3d
  generalize (G.upto w0.heap.size (fun _ => 0) (fun _ => 0)) = G1 at hx1 ho h4' h6' hK hgf
  obtain ⟨w2, st2, hb2, hk2⟩ := cell_store (i := 2) h3' (by simp) (u := .pointer (some ⟨f, 0, none⟩)) rfl
  obtain ⟨w3, st3, hb3, hk3⟩ := cell_store (i := 3) hb2 (by simp) (u := lv) h6.isCell
  have hx3 : Ext (fun x => x = 11) G1 w1 G1 w3 := .on0 (hk2.trans hk3) ho.1 ho.2
  simp (maxSteps := 1000000) (disch := omega) only [↓sy1, sy2, sy3, readOK, sy5, sy6, Nat.reduceEqDiff, ↓reduceIte, sy7, sy8, sy9, sya, oneOf, syb, syc, Nat.reduceAdd, Nat.reduceMul, syd, sye, syf, syg, syh, reduceCtorEq, st2, st3]
  refine ⟨hg1, R_out ⟨G1, ⟨ho.1, ho.2, M, lv, f, lv, P, I, P, I, ?_, h4'.ext hx3 (by omega) (by omega), h5, hK.ext hx3 (by omega), h5, h6'.ext hx3 (by omega), h6'.ext hx3 (by omega)⟩, (hx1.mono (fun _ h => h.elim)).trans hx3, (hk1.trans hk2).trans hk3, hgf⟩⟩
  rw [hb3]; rfl
/-- make, files. -/
theorem mkF_rule {kk : Kont} {e : Env} {w : World} {l : List GOp} {d : Option Nat} {x y : Operand} {n : Nat} {ty : TypeId} (hx : ev e x = .int .i64 n) (hy : ev e y = .int .i64 n) (hn : n ≤ 5000)
    (hh : ∀ v w', Grow w w' → w'.ownsRow w.heap.size 105 6 v n (List.replicate n zfile).flatten → R (symOps Tryz.prog l kk (updO e d v) w')) :
    R (symOps Tryz.prog (⟨d, .hard (H (.makeSlice 100 x y) ty), none⟩ :: l) kk e w) := by
  obtain ⟨i, hi, hz, hsz, hby⟩ := elemRF.hi
  have hr := run_make (P := Tryz.prog) w 100 105 i (.agg zfile.toArray) elemRF.ht hi hz .i64 .i64 n n (by omega) (by omega) (by rw [hby]; omega) (by omega)
  rw [hsz, Int.toNat_natCast] at hr
  have hfl : (List.replicate n zfile).flatten.length = n * 6 := by rw [flat6 (fun cs hc => by rw [(List.mem_replicate.1 hc).2]; rfl), List.length_replicate]
  refine hard_rule (by simp only [execOp, H, hx, hy, Sem.run_bind, hr, Result.andThen_ok]; rfl) (hh _ _ ((Keep.refl _ _).alloc _) ⟨hfl, .inr ⟨w.heap.size, n, _, rfl, Nat.le_refl _, heap_alloc_new w _, Nat.le_refl _, by unfold maxLen; omega, by simp [size_madeCells], ?_⟩⟩)
  rw [made6, List.take_of_length_le (by rw [hfl]; exact Nat.le_refl _)]
set_option maxHeartbeats 1000000 in
theorem rs_new {M : Nat} {P I : List Bool} (h : RM G 8 w M P I) : Calls Tryz.prog 38 #[.pointer (some ⟨M, 0, none⟩)] w (Ret fun v w' => ∃ r G', v = .pointer (some ⟨r, 0, none⟩) ∧ RS G' w' r I.length ∧ Ext0 G w G' w') := by
  have h5 := h.i5
  apply enter38
  apply R_in
  simp (maxSteps := 1000000) (disch := omega) only [↓sy1, sy2, sy3, readOK, sy5, sy6, Nat.reduceEqDiff, ↓reduceIte, sy7, sy8, sy9, sya, oneOf, syb, syc, Nat.reduceAdd, Nat.reduceMul, syd, sye, syf, syg, syh, reduceCtorEq, F38]
  refine call0 (rinodes_spec h) ?_
  rintro _ w1 ⟨rfl, hw1⟩
  subst w1
  simp (maxSteps := 1000000) (disch := omega) only [↓sy1, sy2, sy3, readOK, sy5, sy6, Nat.reduceEqDiff, ↓reduceIte, sy7, sy8, sy9, sya, oneOf, syb, syc, Nat.reduceAdd, Nat.reduceMul, syd, sye, syf, syg, syh, reduceCtorEq]
  refine mkF_rule (n := I.length) (by simp only [upd_at, Nat.reduceEqDiff, reduceIte, ev_tmp, ev_const, List.map_cons, List.map_nil]) (by simp only [upd_at, Nat.reduceEqDiff, reduceIte, ev_tmp, ev_const, List.map_cons, List.map_nil]) (by omega) ?_
  intro lv w1 hg1 hlv
  have hlc : isCell lv = true := (Has.own hlv).isCell
  have hg2 : Grow w1 (w1.alloc (.cells #[.pointer (some ⟨M, 0, none⟩), lv, .pointer none, .slice none 0 0] 102)) := (Keep.refl _ _).alloc _
  have hb2 := heap_alloc_new w1 (.cells #[.pointer (some ⟨M, 0, none⟩), lv, .pointer none, .slice none 0 0] 102)
  have hfl : fillF #[.pointer none, .slice none 0 0, .pointer none, .slice none 0 0] [(0, 1, .pointer (some ⟨M, 0, none⟩)), (1, 1, lv)] = some #[.pointer (some ⟨M, 0, none⟩), lv, .pointer none, .slice none 0 0] := by
    cases lv <;> first | rfl | cases hlc
  have hcl : (Value.agg #[.pointer (some ⟨M, 0, none⟩), lv, .pointer none, .slice none 0 0]).cells = #[.pointer (some ⟨M, 0, none⟩), lv, .pointer none, .slice none 0 0] := rfl
  simp (maxSteps := 1000000) (disch := omega) only [↓sy1, sy2, sy3, readOK, sy5, sy6, Nat.reduceEqDiff, ↓reduceIte, sy7, sy8, sy9, sya, oneOf, syb, syc, Nat.reduceAdd, Nat.reduceMul, syd, sye, syf, syg, syh, reduceCtorEq, fill_gen, hfl, hcl]
  have hx2 : Ext0 G w (G.upto w.heap.size (fun b => if b = w1.heap.size then 11 else 0) (fun _ => 0)) (w1.alloc (.cells #[.pointer (some ⟨M, 0, none⟩), lv, .pointer none, .slice none 0 0] 102)) := .upto (hg1.trans hg2) _ _
  have hs1 := hg1.size
  have ho2 : (G.upto w.heap.size (fun b => if b = w1.heap.size then 11 else 0) (fun _ => 0)).own w1.heap.size = 11 ∧ (G.upto w.heap.size (fun b => if b = w1.heap.size then 11 else 0) (fun _ => 0)).fix w1.heap.size = 0 := by simp [Gh.upto, Nat.not_lt.2 hs1]
  have hrow : ∀ b, lv.ownBlock = some b → (G.upto w.heap.size (fun b => if b = w1.heap.size then 11 else 0) (fun _ => 0)).own b = 0 := fun b hb => by
    have := World.ownsRow.lt hlv b hb
    simp [Gh.upto, Nat.not_lt.2 this.1, show b ≠ w1.heap.size from by omega]
  generalize (G.upto w.heap.size (fun b => if b = w1.heap.size then 11 else 0) (fun _ => 0)) = G2 at hx2 ho2 hrow
  have hsz2 : (w1.alloc (.cells #[.pointer (some ⟨M, 0, none⟩), lv, .pointer none, .slice none 0 0] 102)).heap.size = w1.heap.size + 1 := by simp
  have hlv2 : Has 6 (w1.alloc (.cells #[.pointer (some ⟨M, 0, none⟩), lv, .pointer none, .slice none 0 0] 102)) lv (List.replicate I.length zfile).flatten := (Has.own hlv).grow hg2
  generalize (w1.alloc (.cells #[.pointer (some ⟨M, 0, none⟩), lv, .pointer none, .slice none 0 0] 102)) = w2 at hg2 hb2 hx2 hsz2 hlv2 ⊢
  have hR0 : RS0 G2 w2 w1.heap.size I.length := ⟨ho2.1, ho2.2, M, lv, _, _, P, I, hb2, h.ext hx2 id id, rfl, List.replicate I.length zfile, by simp, ⟨hlv2, fun b hb _ => ⟨by have := (World.ownsRow.lt hlv b hb).2; omega, hrow b hb⟩⟩, fun cs hc => by rw [(List.mem_replicate.1 hc).2]; exact RF.zero _ _⟩
  refine call0 (rs_commit hR0) ?_
  rintro _ w3 ⟨G3, hR3, hx3, hk3, hg3⟩
  simp (maxSteps := 1000000) (disch := omega) only [↓sy1, sy2, sy3, readOK, sy5, sy6, Nat.reduceEqDiff, ↓reduceIte, sy7, sy8, sy9, sya, oneOf, syb, syc, Nat.reduceAdd, Nat.reduceMul, syd, sye, syf, syg, syh, reduceCtorEq]
  refine R_out ⟨w1.heap.size, G3, rfl, hR3, ?_⟩
  have hg03 : Grow w w3 := (hg1.trans hg2).then hk3 (fun b hb hh => by omega)
  exact .ofGrow hg03 (fun b hb => ((hg3 b (by omega)).1).trans (hx2.own b hb)) (fun b hb => ((hg3 b (by omega)).2).trans (hx2.fixe b hb id))
end
end Go.Proofs.YtddiikeepncakaaGreat

/- Inodes on so many pages; the deeds' bytes; what must be whatever is asked. -/
namespace Go.Proofs.YtddiikeepncakaaGreat
open Go
set_option linter.unusedSimpArgs false
open Go.RowKit (intOf)
/-- Whatever is no one's own. -/
abbrev KN : Nat → Prop := fun x => x ≠ 0
theorem KN.of {K : Nat → Prop} (h : ¬ K 0) : ∀ x, K x → KN x := fun x hx hh => h (hh ▸ hx)
/-- A new cache of so many pages. -/
def ic (pages most : Nat) : Csh := Csh.new (Dsk.zero (pages + 101)) 100 most
theorem ic_N (pages most : Nat) : (ic pages most).N = pages := by show (Dsk.zero (pages + 101)).first.length - 100 - 1 = pages; rw [zero_len]; omega
theorem ic_dirty (pages most : Nat) : (ic pages most).dirty = [] := Csh.new_dirty _ _ _
theorem ic_cap (pages most : Nat) : (ic pages most).cap = 100 := rfl
theorem ic_ops (pages most : Nat) : (ic pages most).D.ops.length = 0 := rfl
theorem upto1_false {n N i : Nat} (h : n ≤ i) : (upto1 n N)[i]? ≠ some true := by
  intro hh
  have hlt := (List.getElem?_eq_some_iff.1 hh).1
  rw [upto1_length] at hlt
  rw [upto1_get hlt, decide_eq_false (by omega)] at hh
  cases hh
/-- No inode. -/
theorem fs_none {c : Csh} {k : Nat} (h : Alc c (upto1 (3 + k / 8) c.N) (upto1 1 k)) : FsOk c (upto1 (3 + k / 8) c.N) (upto1 1 k) (fun _ => none) (fun _ => []) := by
  refine ⟨h, ⟨fun i o h => (by cases h), fun i h1 h2 => absurd h2 (upto1_false h1), fun i o n h => (by cases h), fun i j o o' n h => (by cases h), fun i o h => (by cases h), fun n hn hP => ?_⟩, fun i o h => (by cases h), fun i o h => (by cases h)⟩
  rw [upto1_length] at hn
  exact absurd hP (upto1_false hn)
/-- Inodes of a map that was just made, and committed. -/
structure Fresh6 (G : Gh) (w : World) (s m p lq pages k : Nat) (c : Csh) : Prop where
  ino : Ino G 2 7 w s m p lq 0 c (upto1 (3 + k / 8) pages) (upto1 1 k) (fun _ => none) (fun _ => [])
  N : c.N = pages
  cap : c.cap = 100
  dirty : c.dirty = []
  ops : c.D.ops.length ≤ 206
set_option maxHeartbeats 4000000 in
theorem opened_spec {w : World} {pages : Nat} (h1 : 6 ≤ pages) (h2 : pages ≤ 3900) :
    Calls Tryz.prog 12 #[.int .i64 pages] w (Ret fun v w' => ∃ s r m p lq c G', v = .tuple #[.pointer (some ⟨s, 0, none⟩), .pointer (some ⟨r, 0, none⟩), .bool true] ∧ Fresh6 G' w' s m p lq pages 16 c ∧ RS G' w' r 16 ∧ Ext KN G00 w G' w') := by
  have hmay : mayA pages ((16 : Nat) : Int) := by unfold mayA; omega
  apply enter12
  apply R_in
  simp (maxSteps := 1000000) (disch := omega) only [↓sy1, sy2, sy3, readOK, sy5, sy6, Nat.reduceEqDiff, ↓reduceIte, sy7, sy8, sy9, sya, oneOf, syb, syc, Nat.reduceAdd, Nat.reduceMul, syd, sye, syf, syg, syh, reduceCtorEq, F12]
  rw [show (pages : Int) + 101 = ((pages + 101 : Nat) : Int) from by omega]
  refine call0 (new_spec G00 1 (n := pages + 101) (by omega) (by omega)) ?_
  rintro _ w1 ⟨p0, G1, rfl, hp1, hd1, hx1⟩
  simp (maxSteps := 1000000) (disch := omega) only [↓sy1, sy2, sy3, readOK, sy5, sy6, Nat.reduceEqDiff, ↓reduceIte, sy7, sy8, sy9, sya, oneOf, syb, syc, Nat.reduceAdd, Nat.reduceMul, syd, sye, syf, syg, syh, reduceCtorEq]
  refine call0 (open_spec (size := 100) 2 (by omega) hd1 (by omega) (by rw [zero_len]; omega) (.inl (zero_image (by omega)))) ?_
  rintro _ w2 ⟨lq, G2, rfl, hq2, hl2, hx2⟩
  simp (maxSteps := 1000000) (disch := omega) only [↓sy1, sy2, sy3, readOK, sy5, sy6, Nat.reduceEqDiff, ↓reduceIte, sy7, sy8, sy9, sya, oneOf, syb, syc, Nat.reduceAdd, Nat.reduceMul, syd, sye, syf, syg, syh, reduceCtorEq]
  refine call0 (cnew_spec (most := 16) 7 (by omega) (by omega) hl2 (zero_flat _) (zero_calm (by omega)) (by omega) (by omega)) ?_
  rintro _ w3 ⟨p, G3, rfl, hp3, hc3, hx3⟩
  simp (maxSteps := 1000000) (disch := omega) only [↓sy1, sy2, sy3, readOK, sy5, sy6, Nat.reduceEqDiff, ↓reduceIte, sy7, sy8, sy9, sya, oneOf, syb, syc, Nat.reduceAdd, Nat.reduceMul, syd, sye, syf, syg, syh, reduceCtorEq]
  have hN := ic_N pages 16
  have hdr := ic_dirty pages 16
  have hcap := ic_cap pages 16
  have hops := ic_ops pages 16
  have hc3' : CacheS G3 2 7 w3 p lq 0 (ic pages 16) := hc3.s
  generalize ic pages 16 = c0 at hN hdr hcap hops hc3'
  refine call0 (make_ok hc3' (by omega) (k := 16) (by rw [hN]; exact hmay) (by rw [hdr, hcap]; simp)) ?_
  rintro _ w4 ⟨m, G4, c4, rfl, hm4, h4, hst4, hx4⟩
  obtain ⟨t1, t2, t3, t4, t5⟩ := hst4
  rw [← t1] at h4
  simp (maxSteps := 1000000) (disch := omega) only [↓sy1, sy2, sy3, readOK, sy5, sy6, Nat.reduceEqDiff, ↓reduceIte, sy7, sy8, sy9, sya, oneOf, syb, syc, Nat.reduceAdd, Nat.reduceMul, syd, sye, syf, syg, syh, reduceCtorEq]
  refine call0 (inew_spec G4 w4 m) ?_
  rintro _ w5 ⟨s, G5, rfl, hs5, hso5, hx5⟩
  have h5 := h4.ext hx5 id id id
  simp (maxSteps := 1000000) (disch := omega) only [↓sy1, sy2, sy3, readOK, sy5, sy6, Nat.reduceEqDiff, ↓reduceIte, sy7, sy8, sy9, sya, oneOf, syb, syc, Nat.reduceAdd, Nat.reduceMul, syd, sye, syf, syg, syh, reduceCtorEq]
  refine call0 (rmake_spec (N := pages) (k := 16) G5 8 (by omega) hmay) ?_
  rintro _ w6 ⟨r0, G6, rfl, hr6, hx6⟩
  have h6 := h5.ext hx6 id id id
  have hso6 := hso5.ext hx6 id
  simp (maxSteps := 1000000) (disch := omega) only [↓sy1, sy2, sy3, readOK, sy5, sy6, Nat.reduceEqDiff, ↓reduceIte, sy7, sy8, sy9, sya, oneOf, syb, syc, Nat.reduceAdd, Nat.reduceMul, syd, sye, syf, syg, syh, reduceCtorEq, decide_true, not_true_eq_false, decide_false]
  refine call0 (mcommit_ok h6 (by rw [t2]; omega)) ?_
  rintro _ w7 ⟨rfl, G7, hx7, h7⟩
  have hcf := commit_facts h6.1.cache.oks
  obtain ⟨q1, q2, q3, q4, q5⟩ := hcf
  have hso7 := hso6.ext hx7 (by omega)
  have hr7 := hr6.ext hx7 (by omega) (by omega)
  have hfs := (fs_none h6.2).commit h6.1.cache.oks
  simp (maxSteps := 1000000) (disch := omega) only [↓sy1, sy2, sy3, readOK, sy5, sy6, Nat.reduceEqDiff, ↓reduceIte, sy7, sy8, sy9, sya, oneOf, syb, syc, Nat.reduceAdd, Nat.reduceMul, syd, sye, syf, syg, syh, reduceCtorEq, decide_true, not_true_eq_false, decide_false]
  refine call0 (rs_new hr7) ?_
  rintro _ w8 ⟨r, G8, rfl, hR8, hx8⟩
  simp (maxSteps := 1000000) (disch := omega) only [↓sy1, sy2, sy3, readOK, sy5, sy6, Nat.reduceEqDiff, ↓reduceIte, sy7, sy8, sy9, sya, oneOf, syb, syc, Nat.reduceAdd, Nat.reduceMul, syd, sye, syf, syg, syh, reduceCtorEq]
  have hN4 : c4.N = pages := by rw [t1, hN]
  rw [hN4] at h7 hfs
  rw [upto1_length] at hR8 hfs
  refine R_out ⟨s, r, m, p, lq, c4.commit, G8, rfl, ⟨⟨h7.ext hx8 id id id, hso7.ext hx8 id, hfs.1, by rw [upto1_length]; exact hfs.2⟩, by rw [q1, hN4], by rw [q3, t4, hcap], q2, by rw [t2, hops] at q5; exact q5⟩, hR8, ?_⟩
  exact (((((((hx1.mono (fun _ h => h.elim)).trans (hx2.mono (fun _ h => h.elim))).trans (hx3.mono (fun _ h => h.elim))).trans (hx4.mono (KN.of (by omega)))).trans (hx5.mono (fun _ h => h.elim))).trans (hx6.mono (fun _ h => h.elim))).trans (hx7.mono (KN.of (by omega)))).trans (hx8.mono (fun _ h => h.elim))
end Go.Proofs.YtddiikeepncakaaGreat

/- What must be whatever is asked. -/
namespace Go.Proofs.YtddiikeepncakaaGreat
open Go
set_option linter.unusedSimpArgs false
open Go.RowKit (intOf)
/-- A row of one byte. -/
theorem lit1 (G : Gh) (w : World) (x : UInt8) (o : Nat) : ∃ G', HasB (w.alloc (.cells #[.int .u8 (x.toNat : Int)] 5)) (.slice (some ⟨w.heap.size, 0, none⟩) 1 1) [x] ∧ (∀ b, (Value.slice (some ⟨w.heap.size, 0, none⟩) 1 1).ownBlock = some b → b < (w.alloc (.cells #[.int .u8 (x.toNat : Int)] 5)).heap.size ∧ G'.own b = o) ∧ Ext0 G w G' (w.alloc (.cells #[.int .u8 (x.toNat : Int)] 5)) := by
  have hg : Grow w (w.alloc (.cells #[.int .u8 (x.toNat : Int)] 5)) := (Keep.refl _ _).alloc _
  refine ⟨G.upto w.heap.size (fun _ => o) (fun _ => 0), Has.new1, fun b hb => ?_, .upto hg _ _⟩
  have hb' : w.heap.size = b := Option.some.inj hb
  subst hb'
  exact ⟨by simp, (upto_own (Nat.le_refl _)).1⟩
theorem noRoom_no {c : Csh} {free want most : Nat} (h : NoRoom c free want most) (hN : c.N ≤ c.cap) (hf : want ≤ free) : False := by
  rcases h with h | ⟨h, _⟩ <;> omega
/-- Struct of fifteen cells that is kept. -/
theorem store15 {G : Gh} {w : World} {cs : List Value} (hl : cs.length = 15) (hc : ∀ u ∈ cs, isCell u = true) : ∃ w' G', stnF (w.alloc (.cells (Value.agg (Array.replicate 15 (.int .i64 0))).cells 46)) 15 (.pointer (some ⟨w.heap.size, 0, none⟩)) (.agg cs.toArray) = some (undef, w') ∧ w'.heap[w.heap.size]? = some (.cells cs.toArray 46 (0, 0)) ∧ G'.own w.heap.size = 0 ∧ Ext0 G w G' w' := by
  have hg : Grow w (w.alloc (.cells (Value.agg (Array.replicate 15 (.int .i64 0))).cells 46)) := (Keep.refl _ _).alloc _
  obtain ⟨w4, hs4, hb4, hk4⟩ := storeN_cells cs _ _ 0 (heap_alloc_new w (.cells (Value.agg (Array.replicate 15 (.int .i64 0))).cells 46)) (by rw [hl]; simp [Value.cells]) hc
  refine ⟨w4, G.upto w.heap.size (fun _ => 0) (fun _ => 0), ?_, ?_, (upto_own (Nat.le_refl _)).1, .upto (hg.then hk4 (fun b hb hh => by omega)) _ _⟩
  · simp only [stnF, Value.cells, List.size_toArray, hl, if_true]
    exact congrArg (Option.map fun w => (undef, w)) hs4
  · rw [hb4]
    simp only [List.take_zero, List.nil_append]
    rw [List.drop_eq_nil_of_le (by rw [hl]; simp [Value.cells]), List.append_nil]
theorem take15_len (o : Opn) : (o.cells.take 15).length = 15 := by rw [List.length_take, Opn.cells_length]; rfl
theorem take15_cell (o : Opn) : ∀ u ∈ o.cells.take 15, isCell u = true := fun u hu => o.cells_one u (List.mem_of_mem_take hu)
theorem take15_at (o : Opn) {j : Nat} (h : j < 15) : (o.cells.take 15)[j]? = some (.int .i64 (o.cell j)) := by
  rw [List.getElem?_take, if_pos h, o.cells_get (by omega)]
theorem lookC_ok {F : Nat → Option Opn} {k j : Nat} {o : Opn} (h1 : 1 ≤ j) (h2 : j < k) (hF : F j = some o) : lookC F k j = 0 ∧ lookO F k j = o := by
  have hno : ¬ ((j : Int) < 1 ∨ (k : Int) ≤ (j : Int)) := by omega
  refine ⟨?_, ?_⟩
  · unfold lookC
    rw [if_neg hno, Int.toNat_natCast, hF]; rfl
  · unfold lookO
    rw [if_neg hno, Int.toNat_natCast, hF]; rfl
set_option maxRecDepth 20000 in
set_option maxHeartbeats 4000000 in
theorem live6_spec (w : World) : Calls Tryz.prog 9 #[] w (Ret fun v w' => v = .bool true ∧ Grow w w') := by
  apply enter9
  apply R_in
  simp (maxSteps := 1000000) (disch := omega) only [↓sy1, sy2, sy3, readOK, sy5, sy6, Nat.reduceEqDiff, ↓reduceIte, sy7, sy8, sy9, sya, oneOf, syb, syc, Nat.reduceAdd, Nat.reduceMul, syd, sye, syf, syg, syh, reduceCtorEq, F9]
  refine call0 (opened_spec (pages := 40) (by omega) (by omega)) ?_
  rintro _ w1 ⟨s, r, m, p, lq, c, G1, rfl, hf, hR, hx1⟩
  obtain ⟨h1, hN, hcap, hdr, hops⟩ := hf
  rw [show upto1 (3 + 16 / 8) 40 = upto1 5 40 from rfl] at h1
  simp (maxSteps := 1000000) (disch := omega) only [↓sy1, sy2, sy3, readOK, sy5, sy6, Nat.reduceEqDiff, ↓reduceIte, sy7, sy8, sy9, sya, oneOf, syb, syc, Nat.reduceAdd, Nat.reduceMul, syd, sye, syf, syg, syh, reduceCtorEq]
  refine call0 (imake_spec h1 (kd := 1) (md := 420)) ?_
  rintro _ w2 ⟨G2, hx2, hM⟩
  have hmk : mkC 1 420 = 0 := by unfold mkC; rw [if_pos (by omega)]
  have hfI : firstN (upto1 1 16) = 1 := firstN_upto (by omega)
  rcases hM with ⟨h0, _⟩ | ⟨_, rfl, c2, h2, _, hd2⟩ | ⟨_, _, _, hno⟩
  · exact absurd hmk h0
  rotate_left
  · exact (noRoom_no hno (by omega) (by rw [freeN_upto (by omega)]; omega)).elim
  rw [hfI, show (upto1 1 16).set 1 true = upto1 2 16 from upto1_set (by omega)] at h2
  rw [hfI]
  generalize hF2 : upF (fun _ => none) 1 (some (Opn.new (1 : Int).toNat (420 : Int).toNat 1)) = F2 at h2
  generalize upB (fun _ => []) 1 [] = B2 at h2
  have hF21 : F2 1 = some (Opn.new 1 420 1) := by rw [← hF2, upF_same]; rfl
  obtain ⟨G3, hrow3, hown3, hx3⟩ := lit1 G2 w2 97 0
  have h3 := h2.ext hx3 id id id
  have hro3 : RowO (KW 2 7) G3 (w2.alloc (.cells #[.int .u8 ((97 : UInt8).toNat : Int)] 5)) (.slice (some ⟨w2.heap.size, 0, none⟩) 1 1) [97] := ⟨hrow3, fun b hb => ⟨(hown3 b hb).1, by rw [(hown3 b hb).2]; unfold KW; omega⟩⟩
  have h97 : ((97 : UInt8).toNat : Int) = 97 := rfl
  rw [h97] at hx3 h3 hro3
  simp (maxSteps := 1000000) (disch := omega) only [↓sy1, sy2, sy3, readOK, sy5, sy6, Nat.reduceEqDiff, ↓reduceIte, sy7, sy8, sy9, sya, oneOf, syb, syc, Nat.reduceAdd, Nat.reduceMul, syd, sye, syf, syg, syh, reduceCtorEq, fill_one, oneF_int]
  generalize w2.alloc (.cells #[.int .u8 97] 5) = w3 at hx3 h3 hro3 ⊢
  refine call0 (iwrite_file_spec h3 (i := 1) (pos := 5120) hro3 (by simp) (by omega)) ?_
  rintro _ w4 ⟨G4, hx4, hW⟩
  have hlk := lookC_ok (k := 16) (j := 1) (by omega) (by omega) hF21
  have hwc : wrC F2 (upto1 2 16).length 1 5120 [(97 : UInt8)].length = 0 := by
    unfold wrC
    rw [upto1_length, show (1 : Int) = ((1 : Nat) : Int) from rfl, hlk.1, if_neg (by simp), if_neg (by omega), if_neg (by simp)]
  have hneed : needN 5121 = 12 := by decide
  rcases hW with ⟨h0, _⟩ | ⟨_, h0, _⟩ | ⟨_, _, j, o, n, hj, hn, hFo, hT⟩
  · exact absurd hwc h0
  · cases h0
  have hj1 : j = 1 := by omega
  have hn1 : n = 5120 := by omega
  subst hj1; subst hn1
  rw [hF21] at hFo
  have ho := Option.some.inj hFo
  have hos : o.size = 0 := by rw [← ho]; rfl
  rw [hos] at hT
  have hmax : max 0 (5120 + [(97 : UInt8)].length) = 5121 := rfl
  rw [hmax, hneed, show needN 0 = 0 from rfl] at hT
  have hcap2 : c2.cap = c.cap := hd2.cap
  have hN2 := hd2.N
  rcases hT with ⟨rfl, c5, P5, I5, F5, B5, h5, hn5, hI5, ⟨rfl, o5, rfl, rfl, hs5, _, _, _, _, _⟩, _⟩ | ⟨_, _, hno, _⟩
  rotate_left
  · exact (noRoom_no hno (by omega) (by rw [freeN_upto (by omega)]; omega)).elim
  have hF5 : upF F2 1 (some o5) 1 = some o5 := upF_same
  have hlk5 := lookC_ok (k := 16) (j := 1) (by omega) (by omega) hF5
  simp (maxSteps := 1000000) (disch := omega) only [↓sy1, sy2, sy3, readOK, sy5, sy6, Nat.reduceEqDiff, ↓reduceIte, sy7, sy8, sy9, sya, oneOf, syb, syc, Nat.reduceAdd, Nat.reduceMul, syd, sye, syf, syg, syh, reduceCtorEq]
  refine call0 (iget_spec h5 (i := 1)) ?_
  rintro _ w6 ⟨rfl, G6, hx6, h6⟩
  rw [upto1_length, show (1 : Int) = ((1 : Nat) : Int) from rfl, hlk5.1, hlk5.2]
  obtain ⟨w7, G7, st7, hb7, ho7, hx7⟩ := store15 (G := G6) (w := w6) (take15_len o5) (take15_cell o5)
  have h7 := h6.ext hx7 id id id
  simp (maxSteps := 1000000) (disch := omega) only [↓sy1, sy2, sy3, readOK, sy5, sy6, Nat.reduceEqDiff, ↓reduceIte, sy7, sy8, sy9, sya, oneOf, syb, syc, Nat.reduceAdd, Nat.reduceMul, syd, sye, syf, syg, syh, reduceCtorEq, st7]
  refine call0 (ipages_file_spec (ρ := 9) h7 (by omega) (i := 1)) ?_
  rintro _ w8 ⟨u, G8, rfl, hu, _, hx8, h8⟩
  rw [upto1_length, show (1 : Int) = ((1 : Nat) : Int) from rfl, hlk5.1]
  have hpl : (pgB (upF F2 1 (some o5)) 16 ((1 : Nat) : Int)).length = 12 := by
    unfold pgB
    rw [if_neg (by rw [hlk5.1]; simp), hlk5.2, List.length_map, (h8.fs.ok 1 o5 hF5).own_len, hs5, hneed]
  have hlen : ∀ w', lenF w' 0 u = some (.int .i64 12) := fun w' => by
    have := (Has.own hu).lenI w'
    rw [upto1_length] at this
    rw [this]
    exact congrArg (fun n : Nat => some (Value.int .i64 n)) hpl
  have hb8 := hx8.heap hb7 (by rw [ho7]; omega)
  have hc3 : w8.cell? ⟨w6.heap.size, 3, none⟩ = some (.int .i64 5121) := by
    rw [cell_block hb8]
    have := take15_at o5 (j := 3) (by omega)
    rw [show o5.cell 3 = o5.size from rfl, hs5] at this
    simpa using this
  simp (maxSteps := 1000000) (disch := omega) only [↓sy1, sy2, sy3, readOK, sy5, sy6, Nat.reduceEqDiff, ↓reduceIte, sy7, sy8, sy9, sya, oneOf, syb, syc, Nat.reduceAdd, Nat.reduceMul, syd, sye, syf, syg, syh, reduceCtorEq, Int.reduceEq, decide_true, hlen, hc3]
  refine call0 (need_spec (n := 5121)) ?_
  rintro _ w9 ⟨rfl, hw9⟩
  subst w9
  have hnc : needC 5121 = 12 := by
    unfold needC
    rw [if_neg (by omega), show (5121 : Int).toNat = 5121 from rfl, hneed]; rfl
  simp (maxSteps := 1000000) (disch := omega) only [↓sy1, sy2, sy3, readOK, sy5, sy6, Nat.reduceEqDiff, ↓reduceIte, sy7, sy8, sy9, sya, oneOf, syb, syc, Nat.reduceAdd, Nat.reduceMul, syd, sye, syf, syg, syh, reduceCtorEq, hnc, decide_true]
  refine R_out (Ext.toGrow (κ := KN) (G' := G8) ?_ (by simp))
  exact ((((((hx1.trans (hx2.mono (KN.of (by unfold KW; omega)))).trans (hx3.mono (fun _ h => h.elim))).trans (hx4.mono (KN.of (by unfold KW; omega)))).trans (hx6.mono (KN.of (by omega)))).trans (hx7.mono (fun _ h => h.elim))).trans (hx8.mono (KN.of (by omega))))
end Go.Proofs.YtddiikeepncakaaGreat

/- Changes of inodes where there is room; the deeds' bytes. -/
namespace Go.Proofs.YtddiikeepncakaaGreat
open Go
set_option linter.unusedSimpArgs false
open Go.RowKit (intOf)
/-- What a file's bytes are behind a Write. -/
def wrD (b : List UInt8) (pos : Nat) (d : List UInt8) : List UInt8 := if d = [] then b else wrB b pos d
theorem wrD_new (d : List UInt8) : wrD [] 0 d = d := by
  unfold wrD
  split
  · rename_i h; rw [h]
  · have hl : (rszB [] (max 0 (0 + d.length))).length = d.length := by rw [rszB_length]; omega
    simp only [wrB, patch, List.take_zero, List.nil_append, Nat.zero_add, List.length_nil]
    rw [List.drop_eq_nil_of_le (by rw [Nat.zero_add] at hl; omega), List.append_nil]
section
variable {G : Gh} {κ μ m p lq came s j : Nat} {w : World} {c : Csh} {P I : List Bool} {F : Nat → Option Opn} {B : Nat → List UInt8} {o : Opn} {bv : Value} {d : List UInt8}
theorem Ino.blen (h : Ino G κ μ w s m p lq came c P I F B) (hF : F j = some o) : (B j).length = o.size ∧ o.size ≤ 70656 ∧ 1 ≤ j ∧ j < I.length := ⟨(h.fs.recs j o hF).len, (h.fs.ok j o hF).size, (h.fs.i_lt hF).1, (h.fs.i_lt hF).2.1⟩
theorem write_ok (h : Ino G κ μ w s m p lq came c P I F B) (hN : c.N ≤ c.cap) (hF : F j = some o) {pos : Nat} (hd : RowO (KW κ μ) G w bv d) (hsz : pos + d.length ≤ 70656) (hroom : needN (max (B j).length (pos + d.length)) ≤ freeN P + needN (B j).length) :
    Calls Tryz.prog 15 #[.pointer (some ⟨s, 0, none⟩), .int .i64 j, .int .i64 pos, bv] w (Ret fun v w' => v = .int .i64 0 ∧ ∃ G' c' P' o', Ext (KW κ μ) G w G' w' ∧ Ino G' κ μ w' s m p lq came c' P' I (upF F j (some o')) (upB B j (wrD (B j) pos d)) ∧ Near c c' ∧
      o'.kind = o.kind ∧ o'.mode = o.mode ∧ o'.links = o.links ∧ freeN P' + needN (wrD (B j) pos d).length = freeN P + needN (B j).length) := by
  obtain ⟨b1, b2, b3, b4⟩ := h.blen hF
  have hlk := lookC_ok b3 b4 hF
  have hwc : wrC F I.length j pos d.length = 0 := by
    unfold wrC
    rw [hlk.1, if_neg (by simp), if_neg (by omega), if_neg (by omega)]
  refine Ret.mono (iwrite_file_spec h hd (by omega) (by omega)) ?_
  rintro v w' ⟨G', hx, hR⟩
  rcases hR with ⟨h0, _⟩ | ⟨_, hd0, rfl, h'⟩ | ⟨_, hd0, j', o', n, hj, hn, hFo, hT⟩
  · exact absurd hwc h0
  · refine ⟨rfl, G', c, P, o, hx, ?_, .refl c, rfl, rfl, rfl, ?_⟩
    · rw [wrD, if_pos hd0, upB_self, ← hF, upF_self]; exact h'
    · rw [wrD, if_pos hd0]
  · have hjj : j' = j := by omega
    have hnn : n = pos := by omega
    subst hjj; subst hnn
    rw [hF] at hFo
    cases hFo
    have hwl : (wrD (B j') n d).length = max o.size (n + d.length) := by rw [wrD, if_neg hd0, wrB_length, b1]
    rw [b1] at hroom
    rcases hT with ⟨rfl, c5, P5, I5, F5, B5, h5, hn5, hI5, ⟨rfl, o5, rfl, rfl, hs5, hk5, hm5, hl5, hf5, _⟩, _⟩ | ⟨_, _, hno, _⟩
    · refine ⟨rfl, G', c5, P5, o5, hx, ?_, hn5, hk5, hm5, hl5, by rw [hwl, b1]; exact hf5⟩
      rw [wrD, if_neg hd0]; exact h5
    · exact (noRoom_no hno hN hroom).elim
theorem resize_ok (h : Ino G κ μ w s m p lq came c P I F B) (hN : c.N ≤ c.cap) (hF : F j = some o) {n : Nat} (hsz : n ≤ 70656) (hroom : needN n ≤ freeN P + needN (B j).length) :
    Calls Tryz.prog 20 #[.pointer (some ⟨s, 0, none⟩), .int .i64 j, .int .i64 n] w (Ret fun v w' => v = .int .i64 0 ∧ ∃ G' c' P' o', Ext (KW κ μ) G w G' w' ∧ Ino G' κ μ w' s m p lq came c' P' I (upF F j (some o')) (upB B j (rszB (B j) n)) ∧ Near c c' ∧
      o'.kind = o.kind ∧ o'.mode = o.mode ∧ o'.links = o.links ∧ freeN P' + needN n = freeN P + needN (B j).length) := by
  obtain ⟨b1, b2, b3, b4⟩ := h.blen hF
  have hlk := lookC_ok b3 b4 hF
  have hrc : rszC F I.length j n = 0 := by
    unfold rszC
    rw [hlk.1, if_neg (by simp), if_neg (by omega), if_neg (by omega)]
  refine Ret.mono (iresize_spec h) ?_
  rintro v w' ⟨G', hx, hR⟩
  rcases hR with ⟨h0, _⟩ | ⟨_, j', o', hj, hFo, hT⟩
  · exact absurd hrc h0
  · have hjj : j' = j := by omega
    subst hjj
    rw [hF] at hFo
    cases hFo
    rw [b1] at hroom
    rw [Int.toNat_natCast] at hT
    rcases hT with ⟨rfl, c5, P5, I5, F5, B5, h5, hn5, hI5, ⟨rfl, o5, rfl, rfl, hs5, hk5, hm5, hl5, hf5, _⟩, _⟩ | ⟨_, _, hno, _⟩
    · exact ⟨rfl, G', c5, P5, o5, hx, h5, hn5, hk5, hm5, hl5, by rw [b1]; exact hf5⟩
    · exact (noRoom_no hno hN hroom).elim
theorem mk_ok (h : Ino G κ μ w s m p lq came c P I F B) (hN : c.N ≤ c.cap) (hI : firstN I < I.length) {kd md : Nat} (hk : 1 ≤ kd ∧ kd ≤ 3) (hm : md ≤ 4095) :
    Calls Tryz.prog 13 #[.pointer (some ⟨s, 0, none⟩), .int .i64 kd, .int .i64 md] w (Ret fun v w' => v = .tuple #[.int .i64 (firstN I : Nat), .int .i64 0] ∧ ∃ G' c', Ext (KW κ μ) G w G' w' ∧ Ino G' κ μ w' s m p lq came c' P (I.set (firstN I) true) (upF F (firstN I) (some (Opn.new kd md (firstN I)))) (upB B (firstN I) []) ∧ Near c c') := by
  have hmk : mkC kd md = 0 := by unfold mkC; rw [if_pos (by omega)]
  refine Ret.mono (imake_spec h) ?_
  rintro v w' ⟨G', hx, hR⟩
  rcases hR with ⟨h0, _⟩ | ⟨_, rfl, c2, h2, _, hd2⟩ | ⟨_, _, _, hno⟩
  · exact absurd hmk h0
  · exact ⟨rfl, G', c2, hx, h2, hd2.near⟩
  · have := firstN_at hI
    have h1 := freeN_on this
    exact (noRoom_no hno hN (by omega)).elim
end
/-- A deed. -/
structure Deed6 where
  kind : Int
  i : Int
  at_ : Int
  n : Int
  node : Int
  mode : Int
  links : Int
  byte : UInt8
def Deed6.cells (x : Deed6) : List Value := [.int .i64 x.kind, .int .i64 x.i, .int .i64 x.at_, .int .i64 x.n, .int .i64 x.node, .int .i64 x.mode, .int .i64 x.links, .int .u8 (x.byte.toNat : Int)]
def Deed6.val (x : Deed6) : Value := .agg x.cells.toArray
def Deed6.len (x : Deed6) : Nat := if x.n < 0 ∨ 8000 < x.n then 8000 else x.n.toNat
def Deed6.data (x : Deed6) : List UInt8 := (List.range x.len).map fun i => x.byte + UInt8.ofNat (i % 251)
theorem Deed6.data_length (x : Deed6) : x.data.length = x.len := by simp [Deed6.data]
theorem Deed6.len_le (x : Deed6) : x.len ≤ 8000 := by unfold Deed6.len; split <;> omega
/-- The cells of a deed in a block. -/
theorem deed_cell {w : World} {b j : Nat} {x : Deed6} {t : TypeId} (h : w.heap[b]? = some (.cells x.cells.toArray t (0, 0))) : w.cell? ⟨b, j, none⟩ = x.cells[j]? := by rw [cell_block h]; simp
theorem byte_sum (x : UInt8) {i : Nat} (h : i < 251) : ((x.toNat : Int) + ((i : Nat) : Int)) % 256 = ((x + UInt8.ofNat i).toNat : Int) := by
  rw [UInt8.toNat_add, UInt8.toNat_ofNat', Nat.mod_eq_of_lt (show i < 2 ^ 8 by omega)]
  omega
set_option maxHeartbeats 2000000 in
theorem d6bytes_spec {w : World} (x : Deed6) :
    Calls Tryz.prog 14 #[x.val] w (Ret fun v w' => w'.ownsRow w.heap.size 5 1 v x.data.length (bs x.data) ∧ Grow w w') := by
  have hcells : x.val.cells = x.cells.toArray := rfl
  have hb0 := heap_alloc_new w (.cells x.cells.toArray 27)
  have hg0 : Grow w (w.alloc (.cells x.cells.toArray 27)) := (Keep.refl _ _).alloc _
  apply enter14
  apply R_in
  simp (maxSteps := 1000000) (disch := omega) only [↓sy1, sy2, sy3, readOK, sy5, sy6, Nat.reduceEqDiff, ↓reduceIte, sy7, sy8, sy9, sya, oneOf, syb, syc, Nat.reduceAdd, Nat.reduceMul, syd, sye, syf, syg, syh, reduceCtorEq, F14, hcells]
  generalize w.alloc (.cells x.cells.toArray 27) = w0 at hb0 hg0 ⊢
  have hB0 : w.heap.size < w0.heap.size := (Array.getElem?_eq_some_iff.1 hb0).1
  have hc3 : w0.cell? ⟨w.heap.size, 3, none⟩ = some (.int .i64 x.n) := by rw [deed_cell hb0]; rfl
  have hc7 : ∀ {w'}, Grow w0 w' → w'.cell? ⟨w.heap.size, 7, none⟩ = some (.int .u8 (x.byte.toNat : Int)) := fun hg => by rw [deed_cell (hg.gheap hb0)]; rfl
  have hlen := x.data_length
  have hle := x.len_le
  have hget : ∀ {i : Nat}, i < x.len → x.data[i]? = some (x.byte + UInt8.ofNat (i % 251)) := fun {i} hi => by simp [Deed6.data, hi]
  have fin : ∀ (e : Env), e 3 = .int .i64 x.len → e 1 = .pointer (some ⟨w.heap.size, 0, none⟩) → R (symS 31 Tryz.prog ((SCode.ops [⟨some 14, .mv (.tmp 3), none⟩, ⟨some 15, .hard (H (.makeSlice 36 (.tmp 14) (.tmp 14)) 36), none⟩, ⟨some 4, .mv (.tmp 15), none⟩]).seq
      (((SCode.ops [⟨some 5, .mv (.const (.int .i64 0)), none⟩]).seq (SCode.block 0 (.loop F14_L0))).seq ((SCode.ops [⟨some 30, .mv (.tmp 4), none⟩, ⟨some 2, .mv (.tmp 30), none⟩]).seq SCode.ret)))
      ⟨fun e w' => w'.ownsRow w.heap.size 5 1 (e 2) x.data.length (bs x.data) ∧ Grow w w', fun _ _ _ => False, fun e w' => w'.ownsRow w.heap.size 5 1 (e 2) x.data.length (bs x.data) ∧ Grow w w', NoPanic⟩ e w0) := by
    intro e e3 e1
    simp (maxSteps := 1000000) (disch := omega) only [↓sy1, sy2, sy3, readOK, sy5, sy6, Nat.reduceEqDiff, ↓reduceIte, sy7, sy8, sy9, sya, oneOf, syb, syc, Nat.reduceAdd, Nat.reduceMul, syd, sye, syf, syg, syh, reduceCtorEq, e3]
    refine mk_rule elemB (kx := .i64) (ky := .i64) (a := x.len) (c := x.len) (by simp only [upd_at, Nat.reduceEqDiff, reduceIte, ev_tmp, ev_const, List.map_cons, List.map_nil, e3]) (by simp only [upd_at, Nat.reduceEqDiff, reduceIte, ev_tmp, ev_const, List.map_cons, List.map_nil, e3]) (by omega) (by omega) (by omega) (by omega) rfl ?_
    have hg1 : Grow w0 (w0.alloc (.cells (Array.replicate (x.len : Int).toNat (.int .u8 0)) 5)) := (Keep.refl _ _).alloc _
    have ho1 := own_made w0 w0.heap.size (Nat.le_refl _) 5 (x.len : Int).toNat (by rw [Int.toNat_natCast]; omega) (.int .u8 0)
    generalize w0.alloc (.cells (Array.replicate (x.len : Int).toNat (.int .u8 0)) 5) = w1 at hg1 ho1 ⊢
    rw [Int.toNat_natCast] at ho1 ⊢
    generalize (Value.slice (some ⟨w0.heap.size, 0, none⟩) x.len x.len) = bv at ho1 ⊢
    simp (maxSteps := 1000000) (disch := omega) only [↓sy1, sy2, sy3, readOK, sy5, sy6, Nat.reduceEqDiff, ↓reduceIte, sy7, sy8, sy9, sya, oneOf, syb, syc, Nat.reduceAdd, Nat.reduceMul, syd, sye, syf, syg, syh, reduceCtorEq]
    refine loop_rule (fun e w' => ∃ k : Nat, k ≤ x.len ∧ e 5 = .int .i64 k ∧ e 4 = bv ∧ e 3 = .int .i64 x.len ∧ e 1 = .pointer (some ⟨w.heap.size, 0, none⟩) ∧ Grow w0 w' ∧
        w'.ownsRow w0.heap.size 5 1 bv x.len (bs (x.data.take k) ++ List.replicate (x.len - k) (.int .u8 0))) (fun e _ => x.len - (intOf (e 5)).toNat)
      ⟨0, by omega, by simp [upd, updO, ev], by simp [upd, updO, ev], by simp [upd, updO, ev, e3], by simp [upd, updO, ev, e1], hg1, by simpa [bs] using ho1⟩ ?_
    clear e3 e1
    rintro e w3 ⟨k, hk, e5, e4, e3, e1, hg3, ho3⟩
    by_cases hlt : k < x.len
    · obtain ⟨a, w4, ha, hst, ho4, hk4, hbk⟩ := own_store ho3 hlt (u := .int .u8 ((x.byte + UInt8.ofNat (k % 251)).toNat : Int)) rfl
      have hrem : ((k : Nat) : Int).tmod 251 = ((k % 251 : Nat) : Int) := rfl
      simp (maxSteps := 1000000) (disch := omega) only [↓sy1, sy2, sy3, readOK, sy5, sy6, Nat.reduceEqDiff, ↓reduceIte, sy7, sy8, sy9, sya, oneOf, syb, syc, Nat.reduceAdd, Nat.reduceMul, syd, sye, syf, syg, syh, reduceCtorEq, F14_L0, e5, e4, e3, e1, Int.ofNat_lt, hlt, decide_true, hc7 hg3, hrem, show ((k % 251 : Nat) : Int) % 256 = ((k % 251 : Nat) : Int) from by omega, byte_sum x.byte (i := k % 251) (by omega), ha, hst]
      refine R_out ⟨⟨k + 1, by omega, rfl, hg3.then hk4 (fun b hb h => by have := (World.ownsRow.lt ho3 b h).1; omega), ?_⟩, by simp only [intOf]; omega⟩
      have htk : (bs (x.data.take k)).length = k := by rw [bs_length, List.length_take, hlen]; omega
      have : (bs (x.data.take k) ++ List.replicate (x.len - k) (Value.int .u8 0)).set k (.int .u8 ((x.byte + UInt8.ofNat (k % 251)).toNat : Int)) = bs (x.data.take (k + 1)) ++ List.replicate (x.len - (k + 1)) (.int .u8 0) := by
        rw [List.set_append_right _ _ (by omega), htk, Nat.sub_self, show x.len - k = (x.len - (k + 1)) + 1 from by omega, List.replicate_succ, List.set_cons_zero, List.take_add_one, hget hlt]
        simp [bs]
      rw [this] at ho4; exact ho4
    · have hke : k = x.len := by omega
      subst hke
      simp (maxSteps := 1000000) (disch := omega) only [↓sy1, sy2, sy3, readOK, sy5, sy6, Nat.reduceEqDiff, ↓reduceIte, sy7, sy8, sy9, sya, oneOf, syb, syc, Nat.reduceAdd, Nat.reduceMul, syd, sye, syf, syg, syh, reduceCtorEq, F14_L0, e5, e4, e3, e1, Int.ofNat_lt, hlt, decide_false]
      refine R_out ⟨?_, hg0.trans hg3⟩
      rw [← hlen, List.take_length, Nat.sub_self] at ho3
      rw [List.replicate_zero, List.append_nil] at ho3
      exact own_base ho3 (by omega)
  by_cases h0 : x.n < 0
  · have hl : x.len = 8000 := if_pos (.inl h0)
    simp (maxSteps := 1000000) (disch := omega) only [↓sy1, sy2, sy3, readOK, sy5, sy6, Nat.reduceEqDiff, ↓reduceIte, sy7, sy8, sy9, sya, oneOf, syb, syc, Nat.reduceAdd, Nat.reduceMul, syd, sye, syf, syg, syh, reduceCtorEq, hc3, h0, decide_true]
    exact fin _ (by simp only [upd, hl]; rfl) (by simp only [upd]; rfl)
  by_cases h1 : 8000 < x.n
  · have hl : x.len = 8000 := if_pos (.inr h1)
    simp (maxSteps := 1000000) (disch := omega) only [↓sy1, sy2, sy3, readOK, sy5, sy6, Nat.reduceEqDiff, ↓reduceIte, sy7, sy8, sy9, sya, oneOf, syb, syc, Nat.reduceAdd, Nat.reduceMul, syd, sye, syf, syg, syh, reduceCtorEq, hc3, h0, h1, decide_true, decide_false]
    exact fin _ (by simp only [upd, hl]; rfl) (by simp only [upd]; rfl)
  · have hl : x.len = x.n.toNat := if_neg (by omega)
    have hn : x.n = ((x.len : Nat) : Int) := by omega
    simp (maxSteps := 1000000) (disch := omega) only [↓sy1, sy2, sy3, readOK, sy5, sy6, Nat.reduceEqDiff, ↓reduceIte, sy7, sy8, sy9, sya, oneOf, syb, syc, Nat.reduceAdd, Nat.reduceMul, syd, sye, syf, syg, syh, reduceCtorEq, hc3, h0, h1, decide_false]
    exact fin _ (by simp only [upd]; rw [← hn]; rfl) (by simp only [upd]; rfl)
end Go.Proofs.YtddiikeepncakaaGreat

/- What is set is told, and the bytes stay. -/
namespace Go.Proofs.YtddiikeepncakaaGreat
open Go
set_option linter.unusedSimpArgs false
open Go.RowKit (intOf)
/-- A deed in a block that stays. -/
structure DeedAt (G : Gh) (w : World) (b : Nat) (x : Deed6) : Prop where
  at_ : w.heap[b]? = some (.cells x.cells.toArray 27 (0, 0))
  own : G.own b = 0
section
variable {K : Nat → Prop} {G G' : Gh} {w w' : World} {b : Nat} {x : Deed6}
theorem DeedAt.ext (h : DeedAt G w b x) (hx : Ext K G w G' w') (h0 : ¬ K 0) : DeedAt G' w' b x := ⟨hx.heap h.at_ (by rw [h.own]; exact h0), by rw [hx.own b (hx.lt h.at_)]; exact h.own⟩
theorem DeedAt.grow (h : DeedAt G w b x) (hg : Grow w w') : DeedAt G w' b x := ⟨hg.gheap h.at_, h.own⟩
theorem DeedAt.cell (h : DeedAt G w b x) (j : Nat) : w.cell? ⟨b, j, none⟩ = x.cells[j]? := deed_cell h.at_
theorem DeedAt.load (h : DeedAt G w b x) : loadN w ⟨b, 0, none⟩ 0 8 = some x.cells := by
  rw [loadN_cells (o := 0) h.at_ 8 0 (by simp [Deed6.cells])]
  rfl
theorem DeedAt.new (w : World) (x : Deed6) : DeedAt G00 (w.alloc (.cells x.cells.toArray 27)) w.heap.size x := ⟨heap_alloc_new w _, rfl⟩
end
/-- A row of the law's own. -/
theorem fresh_row {G : Gh} {w w' : World} {v : Value} {l : List UInt8} (ho : w'.ownsRow w.heap.size 5 1 v l.length (bs l)) (hg : Grow w w') : ∃ G', Ext0 G w G' w' ∧ RowO (KW 2 7) G' w' v l :=
  ⟨G.upto w.heap.size (fun _ => 9) (fun _ => 0), .upto hg _ _, Has.own ho, fun b hb => ⟨(World.ownsRow.lt ho b hb).2, by rw [(upto_own (World.ownsRow.lt ho b hb).1).1]; unfold KW; omega⟩⟩
theorem rdB_all {F : Nat → Option Opn} {B : Nat → List UInt8} {k j : Nat} {o : Opn} (h1 : 1 ≤ j) (h2 : j < k) (hF : F j = some o) (hl : (B j).length ≤ 70656) : rdC F k j 0 70656 = 0 ∧ rdB F B k j 0 70656 = B j := by
  have hlk := lookC_ok h1 h2 hF
  have hc : rdC F k j 0 70656 = 0 := by unfold rdC; rw [hlk.1, if_neg (by simp), if_neg (by omega)]
  refine ⟨hc, ?_⟩
  unfold rdB
  rw [if_neg (by rw [hc]; simp)]
  simp only [Int.toNat_natCast]
  rw [show (0 : Int).toNat = 0 from rfl, List.drop_zero, List.take_of_length_le (by rw [show (70656 : Int).toNat = 70656 from rfl]; exact hl)]
end Go.Proofs.YtddiikeepncakaaGreat

/- A file that is cut and grows again reads as 0 there. -/
namespace Go.Proofs.YtddiikeepncakaaGreat
open Go
set_option linter.unusedSimpArgs false
open Go.RowKit (intOf)
theorem rszB_at {b : List UInt8} {m k : Nat} (hk : k < m) : (rszB b m)[k]? = some (if h : k < b.length then b[k] else 0) := by
  unfold rszB
  by_cases h : k < b.length
  · rw [dif_pos h, List.getElem?_append_left (by rw [List.length_take]; omega), List.getElem?_take, if_pos hk, List.getElem?_eq_getElem h]
  · rw [dif_neg h, List.getElem?_append_right (by rw [List.length_take]; omega), List.getElem?_replicate, if_pos (by rw [List.length_take]; omega)]
theorem cuts_at {d : List UInt8} {m n k : Nat} (hk : k < n) : (rszB (rszB d m) n)[k]? = some (if h : k < d.length ∧ k < m then d[k]'h.1 else 0) := by
  rw [rszB_at hk]
  congr 1
  by_cases hm : k < m
  · have h1 := rszB_at (b := d) hm
    have hl : k < (rszB d m).length := by rw [rszB_length]; exact hm
    rw [List.getElem?_eq_getElem hl] at h1
    rw [dif_pos hl, Option.some.inj h1]
    by_cases hd : k < d.length
    · rw [dif_pos hd, dif_pos ⟨hd, hm⟩]
    · rw [dif_neg hd, dif_neg (fun h => hd h.1)]
  · rw [dif_neg (by rw [rszB_length]; exact hm), dif_neg (fun h => hm h.2)]
theorem needN_le {n k : Nat} (h : n ≤ 512 * k) (hk : k ≤ 80) : needN n ≤ k + 1 := by unfold needN pagesN; split <;> omega
set_option maxRecDepth 20000 in
set_option maxHeartbeats 4000000 in
theorem inodeCuts_walk {w : World} (x : Deed6) {a b : Nat} (ha : a < 65536) (hb : b < 65536) : Calls Tryz.prog 6 #[x.val, .int .u16 a, .int .u16 b] w (Ret fun v w' => v = .bool true ∧ Grow w w') := by
  have hcells : x.val.cells = x.cells.toArray := rfl
  have hd0 := DeedAt.new w x
  have hg0 : Grow w (w.alloc (.cells x.cells.toArray 27)) := (Keep.refl _ _).alloc _
  apply enter6
  apply R_in
  simp (maxSteps := 1000000) (disch := omega) only [↓sy1, sy2, sy3, readOK, sy5, sy6, Nat.reduceEqDiff, ↓reduceIte, sy7, sy8, sy9, sya, oneOf, syb, syc, Nat.reduceAdd, Nat.reduceMul, syd, sye, syf, syg, syh, reduceCtorEq, F6, hcells]
  generalize w.alloc (.cells x.cells.toArray 27) = w0 at hd0 hg0 ⊢
  generalize hbX : w.heap.size = bX at hd0 ⊢
  refine call0 (opened_spec (pages := 90) (by omega) (by omega)) ?_
  rintro _ w1 ⟨s, r, m, p, lq, c, G1, rfl, hf, hR, hx1⟩
  obtain ⟨h1, hN, hcap, hdr, hops⟩ := hf
  rw [show upto1 (3 + 16 / 8) 90 = upto1 5 90 from rfl] at h1
  have hd1 := hd0.ext hx1 (by simp)
  simp (maxSteps := 1000000) (disch := omega) only [↓sy1, sy2, sy3, readOK, sy5, sy6, Nat.reduceEqDiff, ↓reduceIte, sy7, sy8, sy9, sya, oneOf, syb, syc, Nat.reduceAdd, Nat.reduceMul, syd, sye, syf, syg, syh, reduceCtorEq]
  refine call0 (live6_spec w1) ?_
  rintro _ w2 ⟨rfl, hg2⟩
  have h2 := h1.grow hg2
  have hd2 := hd1.grow hg2
  have hx2 := hx1.trans (.grow hg2)
  have hfI : firstN (upto1 1 16) = 1 := firstN_upto (by omega)
  simp (maxSteps := 1000000) (disch := omega) only [↓sy1, sy2, sy3, readOK, sy5, sy6, Nat.reduceEqDiff, ↓reduceIte, sy7, sy8, sy9, sya, oneOf, syb, syc, Nat.reduceAdd, Nat.reduceMul, syd, sye, syf, syg, syh, reduceCtorEq]
  refine call0 (mk_ok h2 (by omega) (by rw [hfI, upto1_length]; omega) (kd := 1) (md := 420) (by omega) (by omega)) ?_
  rintro _ w3 ⟨rfl, G3, c3, hx3, h3, hn3⟩
  have hd3 := hd2.ext hx3 (by unfold KW; omega)
  rw [hfI, show (upto1 1 16).set 1 true = upto1 2 16 from upto1_set (by omega)] at h3
  rw [hfI]
  generalize hF3 : upF (fun _ => none) 1 (some (Opn.new 1 420 1)) = F3 at h3
  generalize hB3 : upB (fun _ => []) 1 [] = B3 at h3
  have hF31 : F3 1 = some (Opn.new 1 420 1) := by rw [← hF3, upF_same]
  have hB31 : B3 1 = [] := by rw [← hB3, upB_same]
  have hN3 : c3.N ≤ c3.cap := by rw [hn3.1, hn3.cap]; omega
  have hma : (a : Int).tmod 9000 = ((a % 9000 : Nat) : Int) := rfl
  have hmb : (b : Int).tmod 9000 = ((b % 9000 : Nat) : Int) := rfl
  have hm9 : a % 9000 < 9000 := Nat.mod_lt _ (by omega)
  have hn9 : b % 9000 < 9000 := Nat.mod_lt _ (by omega)
  simp (maxSteps := 1000000) (disch := omega) only [↓sy1, sy2, sy3, readOK, sy5, sy6, Nat.reduceEqDiff, ↓reduceIte, sy7, sy8, sy9, sya, oneOf, syb, syc, Nat.reduceAdd, Nat.reduceMul, syd, sye, syf, syg, syh, reduceCtorEq, hma, hmb, hd3.load]
  generalize a % 9000 = mm at hm9 ⊢
  generalize b % 9000 = nn at hn9 ⊢
  refine call0 (d6bytes_spec x) ?_
  rintro bv w4 ⟨hbv, hg4⟩
  obtain ⟨G4, hx4, hro4⟩ := fresh_row (G := G3) hbv hg4
  have h4 := h3.ext hx4 id id id
  have hd4 := hd3.ext hx4 id
  have hle := x.len_le
  have hlen := x.data_length
  simp (maxSteps := 1000000) (disch := omega) only [↓sy1, sy2, sy3, readOK, sy5, sy6, Nat.reduceEqDiff, ↓reduceIte, sy7, sy8, sy9, sya, oneOf, syb, syc, Nat.reduceAdd, Nat.reduceMul, syd, sye, syf, syg, syh, reduceCtorEq, decide_true, not_true_eq_false, decide_false]
  have hn8 := needN_le (n := x.data.length) (k := 16) (by omega) (by omega)
  refine call0 (write_ok (j := 1) (pos := 0) h4 hN3 hF31 hro4 (by omega) (by rw [hB31, freeN_upto (by omega)]; simp only [List.length_nil, Nat.zero_add, Nat.zero_max]; omega)) ?_
  rintro _ w5 ⟨rfl, G5, c5, P5, o5, hx5, h5, hn5, _, _, _, hf5⟩
  rw [hB31, wrD_new] at h5 hf5
  rw [freeN_upto (by omega), show needN ([] : List UInt8).length = 0 from rfl] at hf5
  have hd5 := hd4.ext hx5 (by unfold KW; omega)
  have hN5 : c5.N ≤ c5.cap := by rw [hn5.1, hn5.cap]; exact hN3
  generalize hF5 : upF F3 1 (some o5) = F5 at h5
  generalize hB5 : upB B3 1 x.data = B5 at h5
  have hF51 : F5 1 = some o5 := by rw [← hF5, upF_same]
  have hB51 : B5 1 = x.data := by rw [← hB5, upB_same]
  have hmm := needN_le (n := mm) (k := 18) (by omega) (by omega)
  have hnn := needN_le (n := nn) (k := 18) (by omega) (by omega)
  simp (maxSteps := 1000000) (disch := omega) only [↓sy1, sy2, sy3, readOK, sy5, sy6, Nat.reduceEqDiff, ↓reduceIte, sy7, sy8, sy9, sya, oneOf, syb, syc, Nat.reduceAdd, Nat.reduceMul, syd, sye, syf, syg, syh, reduceCtorEq, decide_true, not_true_eq_false, decide_false]
  refine call0 (resize_ok (j := 1) (n := mm) h5 hN5 hF51 (by omega) (by rw [hB51]; omega)) ?_
  rintro _ w6 ⟨rfl, G6, c6, P6, o6, hx6, h6, hn6, _, _, _, hf6⟩
  rw [hB51] at h6 hf6
  have hd6 := hd5.ext hx6 (by unfold KW; omega)
  have hN6 : c6.N ≤ c6.cap := by rw [hn6.1, hn6.cap]; exact hN5
  generalize hF6 : upF F5 1 (some o6) = F6 at h6
  generalize hB6 : upB B5 1 (rszB x.data mm) = B6 at h6
  have hF61 : F6 1 = some o6 := by rw [← hF6, upF_same]
  have hB61 : B6 1 = rszB x.data mm := by rw [← hB6, upB_same]
  simp (maxSteps := 1000000) (disch := omega) only [↓sy1, sy2, sy3, readOK, sy5, sy6, Nat.reduceEqDiff, ↓reduceIte, sy7, sy8, sy9, sya, oneOf, syb, syc, Nat.reduceAdd, Nat.reduceMul, syd, sye, syf, syg, syh, reduceCtorEq, decide_true, not_true_eq_false, decide_false]
  refine call0 (resize_ok (j := 1) (n := nn) h6 hN6 hF61 (by omega) (by rw [hB61, rszB_length]; omega)) ?_
  rintro _ w7 ⟨rfl, G7, c7, P7, o7, hx7, h7, hn7, _, _, _, hf7⟩
  rw [hB61] at h7 hf7
  have hd7 := hd6.ext hx7 (by unfold KW; omega)
  generalize hF7 : upF F6 1 (some o7) = F7 at h7
  generalize hB7 : upB B6 1 (rszB (rszB x.data mm) nn) = B7 at h7
  have hF71 : F7 1 = some o7 := by rw [← hF7, upF_same]
  have hB71 : B7 1 = rszB (rszB x.data mm) nn := by rw [← hB7, upB_same]
  simp (maxSteps := 1000000) (disch := omega) only [↓sy1, sy2, sy3, readOK, sy5, sy6, Nat.reduceEqDiff, ↓reduceIte, sy7, sy8, sy9, sya, oneOf, syb, syc, Nat.reduceAdd, Nat.reduceMul, syd, sye, syf, syg, syh, reduceCtorEq, decide_true, not_true_eq_false, decide_false]
  refine call0 (iread_spec (ρ := 9) h7 (by omega) (i := 1) (pos := 0) (n := 70656) (by omega) (by omega)) ?_
  rintro _ w8 ⟨u, G8, rfl, hu, hur, hx8, h8⟩
  have hrd := rdB_all (F := F7) (B := B7) (k := 16) (j := 1) (by omega) (by omega) hF71 (by rw [hB71, rszB_length]; omega)
  rw [upto1_length, show (1 : Int) = ((1 : Nat) : Int) from rfl, hrd.2, hB71] at hu
  rw [upto1_length, show (1 : Int) = ((1 : Nat) : Int) from rfl, hrd.1]
  have hd8 := hd7.ext hx8 (by omega)
  have hul : ∀ w', lenF w' 0 u = some (.int .i64 nn) := fun w' => by
    have := (Has.own hu).lenB w'
    rw [rszB_length] at this; exact this
  simp (maxSteps := 1000000) (disch := omega) only [↓sy1, sy2, sy3, readOK, sy5, sy6, Nat.reduceEqDiff, ↓reduceIte, sy7, sy8, sy9, sya, oneOf, syb, syc, Nat.reduceAdd, Nat.reduceMul, syd, sye, syf, syg, syh, reduceCtorEq, decide_true, not_true_eq_false, decide_false, hul, hd8.load]
  refine call0 (d6bytes_spec x) ?_
  rintro wv w9 ⟨hwv, hg9⟩
  have hu9 : HasB w9 u (rszB (rszB x.data mm) nn) := (Has.own hu).grow hg9
  have hw9 : HasB w9 wv x.data := Has.own hwv
  have hxx : Ext KN G00 w0 G8 w8 := ((((((hx2.trans (hx3.mono (KN.of (by unfold KW; omega)))).trans (hx4.mono (fun _ h => h.elim))).trans (hx5.mono (KN.of (by unfold KW; omega)))).trans (hx6.mono (KN.of (by unfold KW; omega)))).trans (hx7.mono (KN.of (by unfold KW; omega)))).trans (hx8.mono (KN.of (by omega))))
  have hgg : Grow w w9 := (hg0.trans (hxx.toGrow (by simp))).trans hg9
  clear h1 h2 h3 h4 h5 h6 h7 h8 hx1 hx2 hx3 hx4 hx5 hx6 hx7 hx8 hxx hd0 hd1 hd2 hd3 hd4 hd5 hd6 hd7 hd8
  simp (maxSteps := 1000000) (disch := omega) only [↓sy1, sy2, sy3, readOK, sy5, sy6, Nat.reduceEqDiff, ↓reduceIte, sy7, sy8, sy9, sya, oneOf, syb, syc, Nat.reduceAdd, Nat.reduceMul, syd, sye, syf, syg, syh, reduceCtorEq]
  refine loop_rule (fun e w' => w' = w9 ∧ ∃ k : Nat, k ≤ nn ∧ e 17 = .int .i64 k ∧ e 12 = .int .i64 mm ∧ e 13 = .int .i64 nn ∧ e 14 = u ∧ e 16 = wv) (fun e _ => nn - (intOf (e 17)).toNat)
    ⟨rfl, 0, by omega, by simp [upd, updO, ev], by simp [upd, updO, ev], by simp [upd, updO, ev], by simp [upd, updO, ev], by simp [upd, updO, ev]⟩ ?_
  rintro e w' ⟨rfl, k, hk, e17, e12, e13, e14, e16⟩
  have hwl : ∀ w', lenF w' 0 wv = some (.int .i64 x.data.length) := fun w' => hw9.lenB w'
  by_cases hlt : k < nn
  · obtain ⟨a1, ha1, hca1, _⟩ := hu9.getB (i := k) (by rw [rszB_length]; exact hlt)
    have hat := cuts_at (d := x.data) (m := mm) hlt
    rw [List.getElem?_eq_getElem (by rw [rszB_length]; exact hlt)] at hat
    rw [Option.some.inj hat] at hca1
    by_cases h1 : k < x.data.length
    · obtain ⟨a2, ha2, hca2, _⟩ := hw9.getB h1
      by_cases h2 : k < mm
      · rw [dif_pos ⟨h1, h2⟩] at hca1
        simp (maxSteps := 1000000) (disch := omega) only [↓sy1, sy2, sy3, readOK, sy5, sy6, Nat.reduceEqDiff, ↓reduceIte, sy7, sy8, sy9, sya, oneOf, syb, syc, Nat.reduceAdd, Nat.reduceMul, syd, sye, syf, syg, syh, reduceCtorEq, F6_L0, e17, e12, e13, e14, e16, Int.ofNat_lt, hlt, h1, h2, hwl, decide_true, ha1, hca1, ha2, hca2, eq_self, not_true_eq_false, decide_false]
        exact R_out ⟨⟨k + 1, by omega, rfl⟩, by simp only [intOf]; omega⟩
      · rw [dif_neg (fun h => h2 h.2)] at hca1
        have h0 : ((0 : UInt8).toNat : Int) = 0 := rfl
        rw [h0] at hca1
        simp (maxSteps := 1000000) (disch := omega) only [↓sy1, sy2, sy3, readOK, sy5, sy6, Nat.reduceEqDiff, ↓reduceIte, sy7, sy8, sy9, sya, oneOf, syb, syc, Nat.reduceAdd, Nat.reduceMul, syd, sye, syf, syg, syh, reduceCtorEq, F6_L0, e17, e12, e13, e14, e16, Int.ofNat_lt, hlt, h1, h2, hwl, decide_true, ha1, hca1, eq_self, not_true_eq_false, decide_false]
        exact R_out ⟨⟨k + 1, by omega, rfl⟩, by simp only [intOf]; omega⟩
    · rw [dif_neg (fun h => h1 h.1)] at hca1
      have h0 : ((0 : UInt8).toNat : Int) = 0 := rfl
      rw [h0] at hca1
      simp (maxSteps := 1000000) (disch := omega) only [↓sy1, sy2, sy3, readOK, sy5, sy6, Nat.reduceEqDiff, ↓reduceIte, sy7, sy8, sy9, sya, oneOf, syb, syc, Nat.reduceAdd, Nat.reduceMul, syd, sye, syf, syg, syh, reduceCtorEq, F6_L0, e17, e12, e13, e14, e16, Int.ofNat_lt, hlt, h1, hwl, decide_true, ha1, hca1, eq_self, not_true_eq_false, decide_false]
      exact R_out ⟨⟨k + 1, by omega, rfl⟩, by simp only [intOf]; omega⟩
  · simp (maxSteps := 1000000) (disch := omega) only [↓sy1, sy2, sy3, readOK, sy5, sy6, Nat.reduceEqDiff, ↓reduceIte, sy7, sy8, sy9, sya, oneOf, syb, syc, Nat.reduceAdd, Nat.reduceMul, syd, sye, syf, syg, syh, reduceCtorEq, F6_L0, e17, e12, e13, e14, e16, Int.ofNat_lt, hlt, decide_false]
    exact R_out hgg
end Go.Proofs.YtddiikeepncakaaGreat

/- Arguments opened: rows of numbers, of bytes. What is only read reads as it did. -/
namespace Go.Proofs.YtddiikeepncakaaGreat
open Go
set_option linter.unusedSimpArgs false
open Go.RowKit Go.ChangeShapes Go.WideShapes Go.Deep Go.Joins
section
variable {H : Type} {enc : TypeId × Value → H} {w : World} {base : Nat} {spare : Nat → Bool} {held : Bool}
theorem u8_nat {n : Int} (h : (Lit.int .u8 n).wf = true) : ∃ k : Nat, k < 256 ∧ n = (k : Int) := by
  have := bounds_u8 h
  exact ⟨n.toNat, by omega, by omega⟩
/-- What is only read reads as it did. -/
theorem argsStay {P : Program} {W W' : World} (hl : laidOutB P = true) (hb : Below W.heap.size W W') : ∀ {ts : List TypeId} {vs : List Value} {ds : List (DataW H)} {ps : List MemPlace}, (ts.all fun t => P.readableRec t && decide (t < P.types.size)) = true →
    DataW.TrodAll enc P W 0 (fun _ => true) true ts vs ds ps → (∀ x ∈ ps, x.block < W.heap.size) → DataW.TrodAll enc P W' 0 (fun b => decide (b < W.heap.size)) true ts vs ds ps
  | [], _, _, _, _, h, _ => by
    obtain ⟨rfl, rfl, rfl⟩ := trodAll_nil h
    exact trodAll_mk0
  | t :: ts, _, _, _, ht, h, hlt => by
    obtain ⟨v, vs, d, ds, p, q, rfl, rfl, rfl, h0, h1⟩ := trodAll_cons h
    simp only [List.all_cons, Bool.and_eq_true, decide_eq_true_eq] at ht
    exact trodAll_cons_mk (Below.trod hl ht.1.1 ht.1.2 h0 hb (fun x hx => hlt x (by simp [hx]))) (argsStay hl hb ht.2 h1 (fun x hx => hlt x (by simp [hx])))
end
end Go.Proofs.YtddiikeepncakaaGreat

/- Arguments opened: rows of groups of pages. -/
namespace Go.Proofs.YtddiikeepncakaaGreat
open Go
set_option linter.unusedSimpArgs false
open Go.RowKit Go.ChangeShapes Go.WideShapes Go.Deep Go.Joins
section
variable {H : Type} {enc : TypeId × Value → H} {w : World} {base : Nat} {spare : Nat → Bool} {held : Bool}
end
end Go.Proofs.YtddiikeepncakaaGreat

/- Arguments opened: a number of sixteen bits; two of them. -/
namespace Go.Proofs.YtddiikeepncakaaGreat
open Go
set_option linter.unusedSimpArgs false
open Go.RowKit Go.ChangeShapes Go.WideShapes Go.Deep Go.Joins
theorem u16_nat {n : Int} (h : (Lit.int .u16 n).wf = true) : ∃ k : Nat, k < 65536 ∧ n = (k : Int) := by
  have := bounds_u16 h
  exact ⟨n.toNat, by omega, by omega⟩
section
variable {H : Type} {enc : TypeId × Value → H}
end
end Go.Proofs.YtddiikeepncakaaGreat

/- Arguments opened: a deed, rows of deeds (law06). -/
namespace Go.Proofs.YtddiikeepncakaaGreat
open Go
set_option linter.unusedSimpArgs false
open Go.RowKit Go.ChangeShapes Go.WideShapes Go.Deep Go.Joins
/-- The numbers of a deed are 64 bits wide. -/
def Deed6.Ok (x : Deed6) : Prop := (-9223372036854775808 ≤ x.i ∧ x.i ≤ 9223372036854775807) ∧ (-9223372036854775808 ≤ x.at_ ∧ x.at_ ≤ 9223372036854775807) ∧ (-9223372036854775808 ≤ x.n ∧ x.n ≤ 9223372036854775807) ∧ (-9223372036854775808 ≤ x.node ∧ x.node ≤ 9223372036854775807) ∧ (-9223372036854775808 ≤ x.mode ∧ x.mode ≤ 9223372036854775807) ∧ (-9223372036854775808 ≤ x.links ∧ x.links ≤ 9223372036854775807)
section
variable {H : Type} {enc : TypeId × Value → H} {w : World} {base : Nat} {spare : Nat → Bool} {held : Bool}
theorem cellsDeed6 : Tryz.prog.cellsOf 27 = 8 := by kernel_rfl
theorem cellsI6 : Tryz.prog.cellsOf 3 = 1 := by kernel_rfl
theorem cellsK6 : Tryz.prog.cellsOf 25 = 1 := by kernel_rfl
theorem cellsB6 : Tryz.prog.cellsOf 5 = 1 := by kernel_rfl
set_option maxRecDepth 100000 in
theorem deed6_fields {fuel : Nat} {cs : List Value} {x : DataW H × List MemPlace} (h : DataW.trod enc Tryz.prog w base spare held fuel 27 cs = some x) : ∃ y : Deed6, cs = y.cells ∧ y.Ok := by
  obtain ⟨xs, n, _, rfl, hl, hlen, hf⟩ := DataW.trod_struct Tryz.underlying27 h
  rw [cellsDeed6] at hl
  match xs, hlen with
  | [y0, y1, y2, y3, y4, y5, y6, y7], _ =>
    match cs, hl with
    | [c0, c1, c2, c3, c4, c5, c6, c7], _ =>
      have h0 := hf 0 _ rfl
      have h1 := hf 1 _ rfl
      have h2 := hf 2 _ rfl
      have h3 := hf 3 _ rfl
      have h4 := hf 4 _ rfl
      have h5 := hf 5 _ rfl
      have h6 := hf 6 _ rfl
      have h7 := hf 7 _ rfl
      simp only [cellsI6, cellsK6, cellsB6, List.drop_zero, List.drop_succ_cons, List.take_succ_cons, List.take_zero, List.getElem?_cons_zero, List.getElem?_cons_succ] at h0 h1 h2 h3 h4 h5 h6 h7
      obtain ⟨a0, e0, _, w0⟩ := DataW.trod_int Tryz.underlying3 h0
      obtain ⟨a1, e1, _, w1⟩ := DataW.trod_int Tryz.underlying3 h1
      obtain ⟨a2, e2, _, w2⟩ := DataW.trod_int Tryz.underlying3 h2
      obtain ⟨a3, e3, _, w3⟩ := DataW.trod_int Tryz.underlying3 h3
      obtain ⟨a4, e4, _, w4⟩ := DataW.trod_int Tryz.underlying25 h4
      obtain ⟨a5, e5, _, w5⟩ := DataW.trod_int Tryz.underlying3 h5
      obtain ⟨a6, e6, _, w6⟩ := DataW.trod_int Tryz.underlying3 h6
      obtain ⟨a7, e7, _, w7⟩ := DataW.trod_int Tryz.underlying5 h7
      cases e0; cases e1; cases e2; cases e3; cases e4; cases e5; cases e6; cases e7
      obtain ⟨k7, hk7, rfl⟩ := u8_nat w7
      refine ⟨⟨a0, a1, a2, a3, a4, a5, a6, UInt8.ofNat k7⟩, ?_, bounds_i64 w1, bounds_i64 w2, bounds_i64 w3, bounds_i64 w4, bounds_i64 w5, bounds_i64 w6⟩
      rw [Deed6.cells]
      simp only [UInt8.toNat_ofNat', Nat.mod_eq_of_lt (show k7 < 2 ^ 8 by omega)]
set_option maxRecDepth 100000 in
theorem open_deed6 {v : Value} {d : DataW H} {p : List MemPlace} {W : World} {b0 : Nat} (hv : Value.okWide Tryz.prog W .any b0 27 v) (h : DataW.Trod enc Tryz.prog W 0 (fun _ => true) true 27 v d p) :
    ∃ x : Deed6, v = x.val ∧ x.Ok := by
  obtain ⟨cs, rfl, hsz⟩ := okWide_struct Tryz.underlying27 hv
  obtain ⟨fuel, hf⟩ := h
  have hf' : DataW.trod enc Tryz.prog W 0 (fun _ => true) true fuel 27 cs.toList = some (d, p) := by simpa [Value.cells] using hf
  obtain ⟨y, hy, hok⟩ := deed6_fields hf'
  refine ⟨y, ?_, hok⟩
  rw [Deed6.val, show cs = y.cells.toArray by rw [← hy]]
end
end Go.Proofs.YtddiikeepncakaaGreat
