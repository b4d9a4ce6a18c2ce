/- Texts of one claim, put together in their order: what each proves stands ahead of it. -/
import Derived.Test.YtbnecclognibaaaMe
import Derived.Test.YtbnecclognibaaaMc
import Derived.Carry
import Derived.Deep.Slices
import Derived.Lib.SmallJoins
import Derived.OpenShut
import Derived.Test.YtbnecclognibaaaMd
/- AllocBack: the walk. -/
namespace Go.Proofs.Ytbnecclognibaaa
open Go
set_option linter.unusedSimpArgs false
open Go.RowKit (intOf)
theorem elemBo : ElemIs Try.prog 44 4 1 1 (.bool false) := elem_of (by kernel_rfl)
def bls (l : List Bool) : List Value := l.map .bool
theorem bls_length (l : List Bool) : (bls l).length = l.length := by simp [bls]
theorem bls_set (l : List Bool) (i : Nat) (b : Bool) : (bls l).set i (.bool b) = bls (l.set i b) := by simp [bls, List.map_set]
theorem Has.getL {w : World} {v : Value} {l : List Bool} (h : Has 1 w v (bls l)) {i : Nat} (hi : i < l.length) : ∃ a, iaF 1 v (.int .i64 i) = some (.pointer (some a)) ∧ w.cell? a = some (.bool l[i]) ∧ v.ownBlock = some a.block := by
  obtain ⟨a, h1, h2, h3⟩ := h.idx (i := i) (by rw [bls_length]; exact hi)
  refine ⟨a, h1, ?_, h3⟩
  rw [h2]; simp [bls]
theorem freeN_set : ∀ {l : List Bool} {i : Nat}, l[i]? = some true → freeN (l.set i false) = freeN l + 1
  | true :: l, 0, _ => by simp [freeN]
  | a :: l, i + 1, h => by
    have h1 := freeN_set (l := l) (i := i) (by simpa using h)
    unfold freeN at h1 ⊢
    rw [List.set_cons_succ, List.count_cons, List.count_cons, h1]; omega
theorem dirty_two {c : Csh} (h : ∀ n, c.q n ≠ none → n = 1 ∨ n = 2) : c.dirty.length ≤ 2 := by
  have hr : c.dirty.Pairwise (· < ·) := keysQ_rise _ _
  have hm : ∀ n ∈ c.dirty, n = 1 ∨ n = 2 := fun n hn => by
    obtain ⟨_, b, hb⟩ := mem_keysQ.1 hn
    exact h n (by rw [hb]; simp)
  generalize c.dirty = l at hr hm
  match l, hr, hm with
  | [], _, _ => simp
  | [a], _, _ => simp
  | [a, b], _, _ => simp
  | a :: b :: d :: l, hr, hm =>
    simp only [List.pairwise_cons, List.mem_cons, forall_eq_or_imp] at hr hm
    omega
/-- The caller's own row. -/
def Own6 (G : Gh) (v : Value) : Prop := ∀ b, v.ownBlock = some b → G.own b = 6 ∧ G.fix b = 0
theorem Own6.ext {K : Nat → Prop} {G G' : Gh} {w w' : World} {v : Value} {B n k : Nat} {t : TypeId} {xs : List Value} (h : Own6 G v) (hx : Ext K G w G' w') (ho : w.ownsRow B t k v n xs) (hk : ¬ K 6) : Own6 G' v := fun b hb => by
  have hlt := (World.ownsRow.lt ho b hb).2
  rw [hx.own b hlt, hx.fixe b hlt (by rw [(h b hb).1]; exact hk)]
  exact h b hb
theorem own6_keep {K : Nat → Prop} {G G' : Gh} {w w' : World} {v : Value} {B n : Nat} {t : TypeId} {xs : List Value} (h : Own6 G v) (hx : Ext K G w G' w') (ho : w.ownsRow B t 1 v n xs) (hk : ¬ K 6) : w'.ownsRow B t 1 v n xs :=
  own_keep ho hx.keep (fun b hb hh => hk (by rw [(h b hb).1] at hh; exact hh))
/-- A number is appended to the caller's own row. -/
theorem app6_rule {k : Kont} {e : Env} {G : Gh} {w : World} {l : List GOp} {d : Option Nat} {x y : Operand} {v : Value} {B n : Nat} {zs' : List Int} {z : Int} {ty : TypeId} (hx : ev e x = v) (hy : ev e y = .slice (some ⟨w.heap.size, 0, none⟩) 1 1) (ho : w.ownsRow B 3 1 v n (ints zs')) (h6 : Own6 G v) (hn : n < 100000) (hB : B ≤ w.heap.size)
    (hh : ∀ v' w' G', w'.ownsRow B 3 1 v' (n + 1) (ints (zs' ++ [z])) → Own6 G' v' → Ext (fun c => c = 6) G w G' w' → Keep (fun b => v.ownBlock = some b) w w' → (∀ b, b < w.heap.size → G'.own b = G.own b ∧ G'.fix b = G.fix b) → (∀ b, v'.ownBlock = some b → v.ownBlock = some b ∨ w.heap.size ≤ b) → R (symOps Try.prog l k (updO e d v') w')) :
    R (symOps Try.prog (⟨d, .hard (H (.call { callee := .builtin .append, args := #[x, y], argTypes := #[45, 45] }) ty), none⟩ :: l) k e (w.alloc (.cells #[.int .i64 z] 3))) := by
  have hga : Grow w (w.alloc (.cells #[.int .i64 z] 3)) := (Keep.refl _ _).alloc _
  refine app_own2 elemI hx hy (own_grow ho hga) Has.new1 (m := 1) rfl (by simp [isCell]) (by omega) (by omega) (by have := hga.size; omega) ?_
  intro v' w' ho' hg' hb'
  have hka := Keep.grown hg'
  have hxa : Ext0 G w (G.upto w.heap.size (fun _ => 6) (fun _ => 0)) (w.alloc (.cells #[.int .i64 z] 3)) := .upto hga _ _
  have h6a := Own6.ext h6 hxa ho id
  refine hh v' w' (G.upto w.heap.size (fun _ => 6) (fun _ => 0)) ?_ ?_ ?_ ((Keep.grow hga).trans (hka.mono (fun b _ hb => hb.symm))) (fun b hb => by simp [Gh.upto, hb]) (fun b hb => by
    rcases hb' with h1 | h1
    · rw [← h1]; exact .inl hb
    · rw [h1] at hb
      have := Option.some.inj hb
      have := hga.size
      exact .inr (by omega))
  · have : ints zs' ++ [.int .i64 z] = ints (zs' ++ [z]) := by simp [ints]
    rw [this] at ho'; exact ho'
  · intro b hb
    by_cases hlt : b < w.heap.size
    · have hrow : v.ownBlock = some b := by
        rcases hb' with h1 | h1
        · rw [← h1]; exact hb
        · rw [h1] at hb
          have := Option.some.inj hb
          have := hga.size; omega
      exact h6a b hrow
    · exact upto_own (by omega)
  · refine (hxa.mono (fun _ h => h.elim)).trans (.onS0 hka (fun b hb => h6a b hb.symm))
/-- The numbers a, a + 1 .. -/
def fromN (a n : Nat) : List Int := (List.range n).map fun i => ((a + i : Nat) : Int)
theorem fromN_length (a n : Nat) : (fromN a n).length = n := by simp [fromN]
theorem fromN_snoc (a n : Nat) : fromN a n ++ [((a + n : Nat) : Int)] = fromN a (n + 1) := by simp [fromN, List.range_succ]
theorem fromN_get {a n i : Nat} (h : i < (fromN a n).length) : (fromN a n)[i] = ((a + i : Nat) : Int) := by simp [fromN]
set_option maxHeartbeats 16000000 in
theorem allocBack_walk {w : World} {n k : Nat} (hn : n < 256) (hk : k < 256) :
    Calls Try.prog 5 #[.int .u8 n, .int .u8 k] w (Ret fun v w' => v = .bool true ∧ Grow w w') := by
  apply enter5
  apply R_in
  simp (maxSteps := 1000000) (disch := omega) only [↓sy1, sy2, sy3, readOK, sy5, sy6, Nat.reduceEqDiff, ↓reduceIte, sy7, sy8, sy9, sya, oneOf, syb, syc, Nat.reduceAdd, Nat.reduceMul, syd, sye, syf, syg, syh, reduceCtorEq, F5]
  refine call0 (cached_spec G00 (pages := 120) (size := 110) 2 7 (by omega) (by omega) (by omega) (by omega) (by omega) (by omega)) ?_
  rintro _ w1 ⟨p, lq, G1, rfl, hp1, hc1, hx1⟩
  simp (maxSteps := 1000000) (disch := omega) only [↓sy1, sy2, sy3, readOK, sy5, sy6, Nat.reduceEqDiff, ↓reduceIte, sy7, sy8, sy9, sya, oneOf, syb, syc, Nat.reduceAdd, Nat.reduceMul, syd, sye, syf, syg, syh, reduceCtorEq]
  have hN := ac_N 120 110
  have hd := ac_dirty 120 110
  have hcap : (ac 120 110).cap = 100 := ac_cap 120 110
  have hops := ac_ops 120 110
  generalize ac 120 110 = c0 at hc1 hN hd hcap hops
  have hmay : mayA c0.N ((24 : Nat) : Int) := by unfold mayA; omega
  refine call0 (make_ok hc1 (by omega) (k := 24) hmay (by rw [hd, hcap]; simp)) ?_
  rintro _ w2 ⟨m, G2, c1, rfl, hm2, h2, hst1, hx2⟩
  obtain ⟨n1, n2, n3, n4, n5⟩ := id hst1
  rw [hN] at h2 n1
  rw [hcap] at n4
  have hx02 := (hx1.mono (κ' := fun x => x = 2 ∨ x = 7 ∨ x = 6) (fun _ h => h.elim)).trans (hx2.mono (fun _ h => .inr (.inl h)))
  clear hx1 hx2 hc1
  simp (maxSteps := 1000000) (disch := omega) only [↓sy1, sy2, sy3, readOK, sy5, sy6, Nat.reduceEqDiff, ↓reduceIte, sy7, sy8, sy9, sya, oneOf, syb, syc, Nat.reduceAdd, Nat.reduceMul, syd, sye, syf, syg, syh, reduceCtorEq]
  refine call0 (live5_spec _) ?_
  rintro _ w3 ⟨rfl, hg3⟩
  simp (maxSteps := 1000000) (disch := omega) only [↓sy1, sy2, sy3, readOK, sy5, sy6, Nat.reduceEqDiff, ↓reduceIte, sy7, sy8, sy9, sya, oneOf, syb, syc, Nat.reduceAdd, Nat.reduceMul, syd, sye, syf, syg, syh, reduceCtorEq, Bool.not_true, decide_true]
  refine call0 (mcommit_ok (h2.grow hg3) (by rw [n2]; omega)) ?_
  rintro _ w4 ⟨rfl, G4, hx4, h4⟩
  obtain ⟨m1, m2, m3, _, m4⟩ := commit_facts h2.1.cache.oks
  have hx04 := (hx02.trans (.grow hg3)).trans (hx4.mono (fun _ h => h.elim .inl (fun h => .inr (.inl h))))
  rw [n1] at m1
  rw [n4] at m3
  rw [n2, hops] at m4
  generalize c1.commit = c2 at h4 m1 m2 m3 m4
  clear hx02 hx4 h2
  simp (maxSteps := 1000000) (disch := omega) only [↓sy1, sy2, sy3, readOK, sy5, sy6, Nat.reduceEqDiff, ↓reduceIte, sy7, sy8, sy9, sya, oneOf, syb, syc, Nat.reduceAdd, Nat.reduceMul, syd, sye, syf, syg, syh, reduceCtorEq, decide_true]
  refine call0 (free_spec h4 (by rw [upto1_length]; omega)) ?_
  rintro _ w5 ⟨rfl, G5, hx5, h5⟩
  rw [freeN_upto (by omega), freeN_upto (by omega)]
  have hx05 := hx04.trans (hx5.mono (fun _ h => .inr (.inl h)))
  simp (maxSteps := 1000000) (disch := omega) only [↓sy1, sy2, sy3, readOK, sy5, sy6, Nat.reduceEqDiff, ↓reduceIte, sy7, sy8, sy9, sya, oneOf, syb, syc, Nat.reduceAdd, Nat.reduceMul, syd, sye, syf, syg, syh, reduceCtorEq]
  refine mk_rule elemBo (kx := .i64) (ky := .i64) (a := 200) (c := 200) (by simp only [upd_at, Nat.reduceEqDiff, reduceIte, ev_tmp, ev_const, List.map_cons, List.map_nil]) (by simp only [upd_at, Nat.reduceEqDiff, reduceIte, ev_tmp, ev_const, List.map_cons, List.map_nil]) (by omega) (by omega) (by omega) (by omega) rfl ?_
  have hg6 : Grow w5 (w5.alloc (.cells (Array.replicate (200 : Int).toNat (.bool false)) 4)) := (Keep.refl _ _).alloc _
  have ho6 := own_made w5 w5.heap.size (Nat.le_refl _) 4 (200 : Int).toNat (by decide) (.bool false)
  generalize w5.alloc (.cells (Array.replicate (200 : Int).toNat (.bool false)) 4) = w6 at hg6 ho6 ⊢
  rw [show (200 : Int).toNat = 200 from rfl] at ho6 ⊢
  generalize (Value.slice (some ⟨w5.heap.size, 0, none⟩) 200 200) = sv at ho6 ⊢
  have ho6 : w6.ownsRow w5.heap.size 4 1 sv 200 (bls (List.replicate 200 false)) := by
    rw [show bls (List.replicate 200 false) = List.replicate 200 (.bool false) from List.map_replicate]; exact ho6
  have hx6 : Ext0 G5 w5 (G5.upto w5.heap.size (fun _ => 6) (fun _ => 0)) w6 := .upto hg6 _ _
  have h6 := h5.ext hx6 id id id
  have hs6 : Own6 (G5.upto w5.heap.size (fun _ => 6) (fun _ => 0)) sv := fun b hb => upto_own (World.ownsRow.lt ho6 b hb).1
  generalize (G5.upto w5.heap.size (fun _ => 6) (fun _ => 0)) = G6 at hx6 h6 hs6
  have hx06 := hx05.trans (hx6.mono (fun _ h => h.elim))
  have hw5 := hx05.size
  generalize w5.heap.size = B at ho6 hw5
  have hBw : B ≤ w6.heap.size := by
    have := hx06.size
    obtain ⟨_, ⟨_, hb⟩ | ⟨g, _, _, _, hb1, hb2, _⟩⟩ := ho6
    · omega
    · have := (Array.getElem?_eq_some_iff.1 hb2).1; omega
  have hmodn : ((n : Int)).tmod 60 = ((n % 60 : Nat) : Int) := rfl
  have hmodk : ((k : Int)).tmod 20 = ((k % 20 : Nat) : Int) := rfl
  have hn60 : n % 60 < 60 := Nat.mod_lt _ (by omega)
  have hk20 : k % 20 < 20 := Nat.mod_lt _ (by omega)
  generalize n % 60 = nn at hmodn hn60
  generalize k % 20 = kk at hmodk hk20
  clear hx05 hx5 hx04 h5 h4 hx6 hg6
  simp (maxSteps := 1000000) (disch := omega) only [↓sy1, sy2, sy3, readOK, sy5, sy6, Nat.reduceEqDiff, ↓reduceIte, sy7, sy8, sy9, sya, oneOf, syb, syc, Nat.reduceAdd, Nat.reduceMul, syd, sye, syf, syg, syh, reduceCtorEq]
  refine loop_rule (fun e w' => ∃ (j : Nat) (G' : Gh) (c' : Csh) (S : List Bool) (pv : Value), j ≤ nn ∧ e 13 = .int .i64 j ∧ e 6 = .pointer (some ⟨m, 0, none⟩) ∧ e 5 = .pointer (some ⟨p, 0, none⟩) ∧ e 0 = .int .u8 n ∧ e 1 = .int .u8 k ∧ e 8 = .int .i64 ((120 - (3 + 24 / 8) : Nat) : Int) ∧ e 9 = .int .i64 ((24 - 1 : Nat) : Int) ∧ e 10 = sv ∧ e 11 = pv ∧ e 12 = .slice none 0 0 ∧
      MapAt G' 2 7 w' m p lq 0 c' (upto1 (6 + j) 120) (upto1 1 24) ∧ c'.dirty = [] ∧ c'.cap = 100 ∧ c'.D.ops.length ≤ 206 + 206 * j ∧ S.length = 200 ∧ (∀ i, 6 + j ≤ i → i < 200 → S[i]? = some false) ∧ w'.ownsRow B 4 1 sv 200 (bls S) ∧ Own6 G' sv ∧ w'.ownsRow B 3 1 pv j (ints (fromN 6 j)) ∧ Own6 G' pv ∧ Ext (fun x => x = 2 ∨ x = 7 ∨ x = 6) G00 w G' w' ∧ B ≤ w'.heap.size) (fun e _ => nn - (intOf (e 13)).toNat)
    ⟨0, G6, c2, List.replicate 200 false, .slice none 0 0, by omega, by simp [upd, updO, ev], by simp [upd, updO, ev], by simp [upd, updO, ev], by simp [upd, updO, ev], by simp [upd, updO, ev], by simp [upd, updO, ev], by simp [upd, updO, ev], by simp [upd, updO, ev], by simp [upd, updO, ev], by simp [upd, updO, ev], h6, m2, m3, by omega, List.length_replicate, fun i h1 h2 => by rw [List.getElem?_replicate, if_pos h2], ho6, hs6, World.ownsRow_nil w6 _ _ _, fun b hb => by simp [Value.ownBlock] at hb, hx06, hBw⟩ ?_
  clear h6 ho6 hs6 hx06 hBw m2 m3 m4
  rintro e w7 ⟨j, G7, c3, S, pv, hj, e13, e6, e5, e0, e1, e8, e9, e10, e11, e12, h7, s2, s3, s4, hSl, hS, ho7, hs7, hp7, hq7, hx7, hB7⟩
  have hlenP : ∀ w', lenF w' 0 pv = some (.int .i64 j) := fun w' => by rw [(Has.own hp7).lenI, fromN_length]
  by_cases hlt : j < nn
  · have hf := firstN_upto (n := 6 + j) (N := 120) (by omega)
    simp (maxSteps := 1000000) (disch := omega) only [↓sy1, sy2, sy3, readOK, sy5, sy6, Nat.reduceEqDiff, ↓reduceIte, sy7, sy8, sy9, sya, oneOf, syb, syc, Nat.reduceAdd, Nat.reduceMul, syd, sye, syf, syg, syh, reduceCtorEq, F5_L0, e13, e6, e5, e0, e1, hmodn, Int.ofNat_lt, hlt, decide_true]
    refine call0 (page_ok h7 (by rw [hf, upto1_length]; omega) (by rw [s2, s3]; simp)) ?_
    rintro _ w8 ⟨G8, c4, hx8, rfl, h8, hst8, _, _⟩
    rw [hf] at h8 ⊢
    rw [upto1_set (by omega)] at h8
    obtain ⟨t1, t2, t3, t4, t5⟩ := id hst8
    have ho8 := own6_keep hs7 hx8 ho7 (by omega)
    have hp8 := own6_keep hq7 hx8 hp7 (by omega)
    have hs8 := hs7.ext hx8 ho7 (by omega)
    have hq8 := hq7.ext hx8 hp7 (by omega)
    have hB8 : B ≤ w8.heap.size := Nat.le_trans hB7 hx8.size
    obtain ⟨a, ha, hca, _⟩ := (Has.own ho8).getL (i := 6 + j) (by omega)
    have hSf : S[6 + j]'(by omega) = false := by
      have := hS (6 + j) (by omega) (by omega)
      rw [List.getElem?_eq_getElem (by omega)] at this
      exact Option.some.inj this
    rw [hSf] at hca
    obtain ⟨a', w9, ha', hst9, ho9, hk9, _⟩ := own_store ho8 (i := 6 + j) (by omega) (u := .bool true) rfl
    rw [ha] at ha'
    cases ha'
    rw [bls_set] at ho9
    have hx9 : Ext (fun x => x = 6) G8 w8 G8 w9 := .onS0 hk9 hs8
    have h9 := h8.ext hx9 (by omega) (by omega) (by omega)
    have hp9 := own_keep hp8 hk9 (fun b hb hh => own_ne hp8 ho8 (by decide) hb hh)
    have hB9 : B ≤ w9.heap.size := Nat.le_trans hB8 hx9.size
    simp (maxSteps := 1000000) (disch := omega) only [↓sy1, sy2, sy3, readOK, sy5, sy6, Nat.reduceEqDiff, ↓reduceIte, sy7, sy8, sy9, sya, oneOf, syb, syc, Nat.reduceAdd, Nat.reduceMul, syd, sye, syf, syg, syh, reduceCtorEq, e6, e10, e11, Int.reduceEq, decide_true, decide_false, ha, hca]
    refine call0 (firstc_spec h8.1.cells.2 (by rw [upto1_length]; omega)) ?_
    rintro _ w8 ⟨rfl, rfl⟩
    rw [upto1_length]
    simp (maxSteps := 1000000) (disch := omega) only [↓sy1, sy2, sy3, readOK, sy5, sy6, Nat.reduceEqDiff, ↓reduceIte, sy7, sy8, sy9, sya, oneOf, syb, syc, Nat.reduceAdd, Nat.reduceMul, syd, sye, syf, syg, syh, reduceCtorEq, e6, e10, e11, show ¬ (((6 + j : Nat) : Int) < ((3 + 24 / 8 : Nat) : Int)) from by omega, decide_false, ha, hst9]
    refine app6_rule (G := G8) (z := ((6 + j : Nat) : Int)) (by simp only [upd_at, Nat.reduceEqDiff, reduceIte, ev_tmp, ev_const, List.map_cons, List.map_nil]) (by simp only [upd_at, Nat.reduceEqDiff, reduceIte, ev_tmp, ev_const, List.map_cons, List.map_nil]) hp9 hq8 (by omega) hB9 ?_
    intro pv' w10 G10 hp10 hq10 hx10 hkk hgg _
    rw [fromN_snoc] at hp10
    have h10 := h9.ext hx10 (by omega) (by omega) (by omega)
    have hx010 := ((hx7.trans (hx8.mono (fun _ h => .inr (.inl h)))).trans (hx9.mono (fun _ h => .inr (.inr h)))).trans (hx10.mono (fun _ h => .inr (.inr h)))
    have ho10 : w10.ownsRow B 4 1 sv 200 (bls (S.set (6 + j) true)) := own_keep ho9 hkk (fun b hb hh => own_ne ho9 hp9 (by decide) hb hh)
    have hs10 : Own6 G10 sv := fun b hb => by
      have hlt := (World.ownsRow.lt ho9 b hb).2
      rw [(hgg b hlt).1, (hgg b hlt).2]; exact hs8 b hb
    have hlenP' : ∀ w', lenF w' 0 pv' = some (.int .i64 ((j + 1 : Nat) : Int)) := fun w' => by rw [(Has.own hp10).lenI, fromN_length]
    simp (maxSteps := 1000000) (disch := omega) only [↓sy1, sy2, sy3, readOK, sy5, sy6, Nat.reduceEqDiff, ↓reduceIte, sy7, sy8, sy9, sya, oneOf, syb, syc, Nat.reduceAdd, Nat.reduceMul, syd, sye, syf, syg, syh, reduceCtorEq, e6]
    refine call0 (free_spec h10 (by rw [upto1_length]; omega)) ?_
    rintro _ w11 ⟨rfl, G11, hx11, h11⟩
    rw [freeN_upto (by omega), freeN_upto (by omega)]
    have ho11 := own6_keep hs10 hx11 ho10 (by omega)
    have hp11 := own6_keep hq10 hx11 hp10 (by omega)
    have hs11 := hs10.ext hx11 ho10 (by omega)
    have hq11 := hq10.ext hx11 hp10 (by omega)
    simp (maxSteps := 1000000) (disch := omega) only [↓sy1, sy2, sy3, readOK, sy5, sy6, Nat.reduceEqDiff, ↓reduceIte, sy7, sy8, sy9, sya, oneOf, syb, syc, Nat.reduceAdd, Nat.reduceMul, syd, sye, syf, syg, syh, reduceCtorEq, e8, e5, hlenP', show (((120 - (6 + j + 1) : Nat) : Int) + ((j + 1 : Nat) : Int) = ((120 - (3 + 24 / 8) : Nat) : Int)) from by omega, decide_true]
    refine call0 (mcommit_ok h11 (by rw [t2]; omega)) ?_
    rintro _ w12 ⟨rfl, G12, hx12, h12⟩
    obtain ⟨_, z2, z3, _, z4⟩ := commit_facts h11.1.cache.oks
    have ho12 := own6_keep hs11 hx12 ho11 (by omega)
    have hp12 := own6_keep hq11 hx12 hp11 (by omega)
    have hs12 := hs11.ext hx12 ho11 (by omega)
    have hq12 := hq11.ext hx12 hp11 (by omega)
    simp (maxSteps := 1000000) (disch := omega) only [↓sy1, sy2, sy3, readOK, sy5, sy6, Nat.reduceEqDiff, ↓reduceIte, sy7, sy8, sy9, sya, oneOf, syb, syc, Nat.reduceAdd, Nat.reduceMul, syd, sye, syf, syg, syh, reduceCtorEq, e13, e6, e5, e0, e1, e8, e9, e10, e11, e12, decide_true]
    refine R_out ⟨⟨j + 1, G12, c4.commit, S.set (6 + j) true, pv', by omega, rfl, rfl, h12, z2, by rw [z3, t4, s3], by rw [t2] at z4; omega, by rw [List.length_set]; exact hSl, fun i h1 h2 => by rw [List.getElem?_set_ne (by omega)]; exact hS i (by omega) h2, ho12, hs12, hp12, hq12,
      (hx010.trans (hx11.mono (fun _ h => .inr (.inl h)))).trans (hx12.mono (fun _ h => h.elim .inl (fun h => .inr (.inl h)))), Nat.le_trans hB9 (Nat.le_trans hx10.size (Nat.le_trans hx11.size hx12.size))⟩, by simp only [intOf]; omega⟩
  have hje : j = nn := by omega
  subst hje
  simp (maxSteps := 1000000) (disch := omega) only [↓sy1, sy2, sy3, readOK, sy5, sy6, Nat.reduceEqDiff, ↓reduceIte, sy7, sy8, sy9, sya, oneOf, syb, syc, Nat.reduceAdd, Nat.reduceMul, syd, sye, syf, syg, syh, reduceCtorEq, F5_L0, e13, e6, e5, e0, e1, hmodn, Int.ofNat_lt, Nat.lt_irrefl, decide_false]
  clear hS hSl ho7 hs7 hlt s4 e10 e13 hmodn
  refine loop_rule (fun e w' => ∃ (i : Nat) (G' : Gh) (c' : Csh) (iv : Value), i ≤ kk ∧ e 18 = .int .i64 i ∧ e 6 = .pointer (some ⟨m, 0, none⟩) ∧ e 1 = .int .u8 k ∧ e 8 = .int .i64 ((120 - (3 + 24 / 8) : Nat) : Int) ∧ e 9 = .int .i64 ((24 - 1 : Nat) : Int) ∧ e 11 = pv ∧ e 12 = iv ∧
      MapAt G' 2 7 w' m p lq 0 c' (upto1 (6 + j) 120) (upto1 (1 + i) 24) ∧ (∀ n, c'.q n ≠ none → n = 1) ∧ c'.cap = 100 ∧ w'.ownsRow B 3 1 pv j (ints (fromN 6 j)) ∧ Own6 G' pv ∧ w'.ownsRow B 3 1 iv i (ints (fromN 1 i)) ∧ Own6 G' iv ∧ (∀ b, iv.ownBlock = some b → pv.ownBlock ≠ some b) ∧ Ext (fun x => x = 2 ∨ x = 7 ∨ x = 6) G00 w G' w' ∧ B ≤ w'.heap.size) (fun e _ => kk - (intOf (e 18)).toNat)
    ⟨0, G7, c3, .slice none 0 0, by omega, by simp [upd, updO, ev], by simp [upd, updO, ev, e6], by simp [upd, updO, ev, e1], by simp [upd, updO, ev, e8], by simp [upd, updO, ev, e9], by simp [upd, updO, ev, e11], by simp [upd, updO, ev, e12], h7, fun n hn => ?_, s3, hp7, hq7, World.ownsRow_nil w7 _ _ _, fun b hb => by simp [Value.ownBlock] at hb, fun b hb => by simp [Value.ownBlock] at hb, hx7, hB7⟩ ?_
  · exfalso
    obtain ⟨row, hok⟩ := h7.1.cache.oks
    cases hqn : c3.q n with
    | none => exact hn hqn
    | some b =>
      have hlt : n < c3.N := (hok.q n b hqn).1
      have := (mem_dirty (c := c3) hlt).2 hn
      rw [s2] at this; simp at this
  clear e0 e1 e5 e6 e8 e9 e11 e12 h7 hp7 hq7 hx7 hB7 s2 s3 hlenP
  rintro e w8 ⟨i, G8, c4, iv, hi, e18, e6, e1, e8, e9, e11, e12, h8, hq1, s3, hp8, hq8, hv8, hr8, hd8, hx8, hB8⟩
  have hdl8 : c4.dirty.length ≤ 2 := dirty_two (fun n hn => .inl (hq1 n hn))
  have hlenP : ∀ w', lenF w' 0 pv = some (.int .i64 j) := fun w' => by rw [(Has.own hp8).lenI, fromN_length]
  by_cases hlt : i < kk
  · have hf := firstN_upto (n := 1 + i) (N := 24) (by omega)
    simp (maxSteps := 1000000) (disch := omega) only [↓sy1, sy2, sy3, readOK, sy5, sy6, Nat.reduceEqDiff, ↓reduceIte, sy7, sy8, sy9, sya, oneOf, syb, syc, Nat.reduceAdd, Nat.reduceMul, syd, sye, syf, syg, syh, reduceCtorEq, F5_L1, e18, e6, e1, hmodk, Int.ofNat_lt, hlt, decide_true]
    refine call0 (inode_ok h8 (by rw [hf, upto1_length]; omega) (by omega)) ?_
    rintro _ w9 ⟨G9, c5, hx9, rfl, h9, hst9, hqq⟩
    rw [hf] at h9 ⊢
    rw [upto1_set (by omega)] at h9
    have hp9 := own6_keep hq8 hx9 hp8 (by omega)
    have hq9 := hq8.ext hx9 hp8 (by omega)
    have hv9 := own6_keep hr8 hx9 hv8 (by omega)
    have hr9 := hr8.ext hx9 hv8 (by omega)
    simp (maxSteps := 1000000) (disch := omega) only [↓sy1, sy2, sy3, readOK, sy5, sy6, Nat.reduceEqDiff, ↓reduceIte, sy7, sy8, sy9, sya, oneOf, syb, syc, Nat.reduceAdd, Nat.reduceMul, syd, sye, syf, syg, syh, reduceCtorEq, e12, decide_true, show ¬ (((1 + i : Nat) : Int) < 1) from by omega, decide_false]
    refine app6_rule (G := G9) (z := ((1 + i : Nat) : Int)) (by simp only [upd_at, Nat.reduceEqDiff, reduceIte, ev_tmp, ev_const, List.map_cons, List.map_nil]) (by simp only [upd_at, Nat.reduceEqDiff, reduceIte, ev_tmp, ev_const, List.map_cons, List.map_nil]) hv9 hr9 (by omega) (Nat.le_trans hB8 hx9.size) ?_
    intro iv' w10 G10 hv10 hr10 hx10 hkk hgg hbb
    rw [fromN_snoc] at hv10
    have h10 := h9.ext hx10 (by omega) (by omega) (by omega)
    have hp10 := own_keep hp9 hkk (fun b hb hh => hd8 b hh hb)
    have hq10 : Own6 G10 pv := fun b hb => by
      have hlt := (World.ownsRow.lt hp9 b hb).2
      rw [(hgg b hlt).1, (hgg b hlt).2]; exact hq9 b hb
    have hd10 : ∀ b, iv'.ownBlock = some b → pv.ownBlock ≠ some b := fun b hb hh => by
      rcases hbb b hb with h1 | h1
      · exact hd8 b h1 hh
      · have := (World.ownsRow.lt hp9 b hh).2; omega
    simp (maxSteps := 1000000) (disch := omega) only [↓sy1, sy2, sy3, readOK, sy5, sy6, Nat.reduceEqDiff, ↓reduceIte, sy7, sy8, sy9, sya, oneOf, syb, syc, Nat.reduceAdd, Nat.reduceMul, syd, sye, syf, syg, syh, reduceCtorEq, e18, e6, e1, e8, e9, e11, e12]
    exact R_out ⟨⟨i + 1, G10, c5, iv', by omega, rfl, rfl, h10, fun n hn => by
      by_cases h1 : n = 1
      · exact h1
      · rw [hqq n h1] at hn; exact hq1 n hn, by rw [hst9.2.2.2.1, s3], hp10, hq10, hv10, hr10, hd10, (hx8.trans (hx9.mono (fun _ h => .inr (.inl h)))).trans (hx10.mono (fun _ h => .inr (.inr h))), Nat.le_trans hB8 (Nat.le_trans hx9.size hx10.size)⟩, by simp only [intOf]; omega⟩
  have hie : i = kk := by omega
  subst hie
  simp (maxSteps := 1000000) (disch := omega) only [↓sy1, sy2, sy3, readOK, sy5, sy6, Nat.reduceEqDiff, ↓reduceIte, sy7, sy8, sy9, sya, oneOf, syb, syc, Nat.reduceAdd, Nat.reduceMul, syd, sye, syf, syg, syh, reduceCtorEq, F5_L1, e18, e6, e1, hmodk, Int.ofNat_lt, Nat.lt_irrefl, decide_false]
  have hfr8 : freeN (upto1 (6 + j) 120) = 114 - j := by rw [freeN_upto (by omega)]; omega
  have hfi8 : freeN (upto1 (1 + i) 24) = 23 - i := by rw [freeN_upto (by omega)]; omega
  clear hd8 hlt e18 hmodk
  refine loop_rule (fun e w' => ∃ (z : Nat) (G' : Gh) (c' : Csh) (P : List Bool), z ≤ j ∧ e 21 = .int .i64 z ∧ e 6 = .pointer (some ⟨m, 0, none⟩) ∧ e 8 = .int .i64 ((120 - (3 + 24 / 8) : Nat) : Int) ∧ e 9 = .int .i64 ((24 - 1 : Nat) : Int) ∧ e 11 = pv ∧ e 12 = iv ∧
      MapAt G' 2 7 w' m p lq 0 c' P (upto1 (1 + i) 24) ∧ (∀ n, c'.q n ≠ none → n = 1 ∨ n = 2) ∧ c'.cap = 100 ∧ c'.N = 120 ∧ (∀ a, z ≤ a → a < j → P[6 + a]? = some true) ∧ freeN P = 114 - j + z ∧ w'.ownsRow B 3 1 pv j (ints (fromN 6 j)) ∧ Own6 G' pv ∧ w'.ownsRow B 3 1 iv i (ints (fromN 1 i)) ∧ Own6 G' iv ∧ Ext (fun x => x = 2 ∨ x = 7 ∨ x = 6) G00 w G' w') (fun e _ => j - (intOf (e 21)).toNat)
    ⟨0, G8, c4, upto1 (6 + j) 120, by omega, by simp [upd, updO, ev], by simp [upd, updO, ev, e6], by simp [upd, updO, ev, e8], by simp [upd, updO, ev, e9], by simp [upd, updO, ev, e11], by simp [upd, updO, ev, e12], h8, fun n hn => .inl (hq1 n hn), s3, by have := h8.2.plen; rw [upto1_length] at this; exact this.symm, fun a _ ha => by rw [upto1_get (by omega), decide_eq_true (by omega)], by omega, hp8, hq8, hv8, hr8, hx8⟩ ?_
  clear e1 e6 e8 e9 e11 e12 h8 hq1 s3 hp8 hq8 hv8 hr8 hx8 hB8 hdl8
  rintro e w9 ⟨z, G9, c5, P, hz, e21, e6, e8, e9, e11, e12, h9, hq9, s3, sN, hP, hfP, hp9, ho9, hv9, hr9, hx9⟩
  have hdl9 : c5.dirty.length ≤ 2 := dirty_two hq9
  have hPl : P.length = 120 := by rw [h9.2.plen, sN]
  by_cases hlt : z < j
  · obtain ⟨a, ha, hca, _⟩ := (Has.own hp9).getI (i := z) (by rw [fromN_length]; exact hlt)
    rw [fromN_get] at hca
    have hPz := hP z (Nat.le_refl _) hlt
    have hcode : giveC P ((6 + z : Nat) : Int) ((3 + (upto1 (1 + i) 24).length / 8 : Nat) : Int) = 0 := by
      unfold giveC
      rw [upto1_length, if_neg (by omega), show (((6 + z : Nat) : Int)).toNat = 6 + z from rfl, if_pos hPz]
    simp (maxSteps := 1000000) (disch := omega) only [↓sy1, sy2, sy3, readOK, sy5, sy6, Nat.reduceEqDiff, ↓reduceIte, sy7, sy8, sy9, sya, oneOf, syb, syc, Nat.reduceAdd, Nat.reduceMul, syd, sye, syf, syg, syh, reduceCtorEq, F5_L2, e21, e6, e11, hlenP, Int.ofNat_lt, hlt, decide_true, ha, hca]
    refine call0 (givep_ok h9 (n := ((6 + z : Nat) : Int)) (by omega)) ?_
    rintro _ w10 ⟨G10, c6, hx10, rfl, h10, hst10, _, hqq⟩
    rw [hcode]
    rw [giveL, if_pos hcode, show (((6 + z : Nat) : Int)).toNat = 6 + z from rfl] at h10
    obtain ⟨t1, t2, t3, t4, _⟩ := id hst10
    have hq10 : ∀ n, c6.q n ≠ none → n = 1 ∨ n = 2 := fun n hn => by
      by_cases h1 : n = 2
      · exact .inr h1
      · rw [hqq n h1] at hn; exact hq9 n hn
    have hdl10 := dirty_two hq10
    have hp10 := own6_keep ho9 hx10 hp9 (by omega)
    have ho10 := ho9.ext hx10 hp9 (by omega)
    have hv10 := own6_keep hr9 hx10 hv9 (by omega)
    have hr10 := hr9.ext hx10 hv9 (by omega)
    obtain ⟨a2, ha2, hca2, _⟩ := (Has.own hp10).getI (i := z) (by rw [fromN_length]; exact hlt)
    rw [fromN_get] at hca2
    have hcode2 : giveC (P.set (6 + z) false) ((6 + z : Nat) : Int) ((3 + (upto1 (1 + i) 24).length / 8 : Nat) : Int) = 4 := by
      unfold giveC
      rw [upto1_length, List.length_set, if_neg (by omega), show (((6 + z : Nat) : Int)).toNat = 6 + z from rfl, List.getElem?_set_self (by omega), if_neg (by simp)]
    simp (maxSteps := 1000000) (disch := omega) only [↓sy1, sy2, sy3, readOK, sy5, sy6, Nat.reduceEqDiff, ↓reduceIte, sy7, sy8, sy9, sya, oneOf, syb, syc, Nat.reduceAdd, Nat.reduceMul, syd, sye, syf, syg, syh, reduceCtorEq, e21, e6, e11, decide_true, ha2, hca2]
    refine call0 (givep_ok h10 (n := ((6 + z : Nat) : Int)) (by omega)) ?_
    rintro _ w11 ⟨G11, c7, hx11, rfl, h11, hst11, _, hqq2⟩
    rw [hcode2]
    rw [giveL, if_neg (by rw [hcode2]; omega)] at h11
    obtain ⟨v1, v2, v3, v4, _⟩ := id hst11
    have hp11 := own6_keep ho10 hx11 hp10 (by omega)
    have ho11 := ho10.ext hx11 hp10 (by omega)
    have hv11 := own6_keep hr10 hx11 hv10 (by omega)
    have hr11 := hr10.ext hx11 hv10 (by omega)
    simp (maxSteps := 1000000) (disch := omega) only [↓sy1, sy2, sy3, readOK, sy5, sy6, Nat.reduceEqDiff, ↓reduceIte, sy7, sy8, sy9, sya, oneOf, syb, syc, Nat.reduceAdd, Nat.reduceMul, syd, sye, syf, syg, syh, reduceCtorEq, e21, e6, e8, e9, e11, e12, decide_true]
    exact R_out ⟨⟨z + 1, G11, c7, P.set (6 + z) false, by omega, rfl, h11, fun n hn => by
      by_cases h1 : n = 2
      · exact .inr h1
      · rw [hqq2 n h1] at hn; exact hq10 n hn, by rw [v4, t4, s3], by rw [v1, t1, sN], fun a h1 h2 => by rw [List.getElem?_set_ne (by omega)]; exact hP a (by omega) h2, by rw [freeN_set hPz, hfP]; omega, hp11, ho11, hv11, hr11, (hx9.trans (hx10.mono (fun _ h => .inr (.inl h)))).trans (hx11.mono (fun _ h => .inr (.inl h)))⟩, by simp only [intOf]; omega⟩
  have hze : z = j := by omega
  subst hze
  have hlenI : ∀ w', lenF w' 0 iv = some (.int .i64 i) := fun w' => by rw [(Has.own hv9).lenI, fromN_length]
  simp (maxSteps := 1000000) (disch := omega) only [↓sy1, sy2, sy3, readOK, sy5, sy6, Nat.reduceEqDiff, ↓reduceIte, sy7, sy8, sy9, sya, oneOf, syb, syc, Nat.reduceAdd, Nat.reduceMul, syd, sye, syf, syg, syh, reduceCtorEq, F5_L2, e21, e6, e11, hlenP, Int.ofNat_lt, Nat.lt_irrefl, decide_false]
  clear hP hp9 ho9 hlt e21 e11 hlenP
  refine loop_rule (fun e w' => ∃ (y : Nat) (G' : Gh) (c' : Csh) (I : List Bool), y ≤ i ∧ e 22 = .int .i64 y ∧ e 6 = .pointer (some ⟨m, 0, none⟩) ∧ e 8 = .int .i64 ((120 - (3 + 24 / 8) : Nat) : Int) ∧ e 9 = .int .i64 ((24 - 1 : Nat) : Int) ∧ e 12 = iv ∧
      MapAt G' 2 7 w' m p lq 0 c' P I ∧ (∀ n, c'.q n ≠ none → n = 1 ∨ n = 2) ∧ c'.cap = 100 ∧ I.length = 24 ∧ (∀ a, y ≤ a → a < i → I[1 + a]? = some true) ∧ freeN I = 23 - i + y ∧ w'.ownsRow B 3 1 iv i (ints (fromN 1 i)) ∧ Own6 G' iv ∧ Ext (fun x => x = 2 ∨ x = 7 ∨ x = 6) G00 w G' w') (fun e _ => i - (intOf (e 22)).toNat)
    ⟨0, G9, c5, upto1 (1 + i) 24, by omega, by simp [upd, updO, ev], by simp [upd, updO, ev, e6], by simp [upd, updO, ev, e8], by simp [upd, updO, ev, e9], by simp [upd, updO, ev, e12], h9, hq9, s3, upto1_length _ _, fun a _ ha => by rw [upto1_get (by omega), decide_eq_true (by omega)], by omega, hv9, hr9, hx9⟩ ?_
  clear e6 e8 e9 e12 h9 hq9 s3 hv9 hr9 hx9 hdl9
  rintro e w10 ⟨y, G10, c6, I, hy, e22, e6, e8, e9, e12, h10, hq10, s3, hIl, hI, hfI, hv10, hr10, hx10⟩
  have hdl10 := dirty_two hq10
  by_cases hlt : y < i
  · obtain ⟨a, ha, hca, _⟩ := (Has.own hv10).getI (i := y) (by rw [fromN_length]; exact hlt)
    rw [fromN_get] at hca
    have hIy := hI y (Nat.le_refl _) hlt
    have hcode : giveC I ((1 + y : Nat) : Int) 1 = 0 := by
      unfold giveC
      rw [hIl, if_neg (by omega), show (((1 + y : Nat) : Int)).toNat = 1 + y from rfl, if_pos hIy]
    simp (maxSteps := 1000000) (disch := omega) only [↓sy1, sy2, sy3, readOK, sy5, sy6, Nat.reduceEqDiff, ↓reduceIte, sy7, sy8, sy9, sya, oneOf, syb, syc, Nat.reduceAdd, Nat.reduceMul, syd, sye, syf, syg, syh, reduceCtorEq, F5_L3, e22, e6, e12, hlenI, Int.ofNat_lt, hlt, decide_true, ha, hca]
    refine call0 (givei_ok h10 (n := ((1 + y : Nat) : Int)) (by omega)) ?_
    rintro _ w11 ⟨G11, c7, hx11, rfl, h11, hst11, hqq⟩
    rw [hcode]
    rw [giveL, if_pos hcode, show (((1 + y : Nat) : Int)).toNat = 1 + y from rfl] at h11
    have hv11 := own6_keep hr10 hx11 hv10 (by omega)
    have hr11 := hr10.ext hx11 hv10 (by omega)
    simp (maxSteps := 1000000) (disch := omega) only [↓sy1, sy2, sy3, readOK, sy5, sy6, Nat.reduceEqDiff, ↓reduceIte, sy7, sy8, sy9, sya, oneOf, syb, syc, Nat.reduceAdd, Nat.reduceMul, syd, sye, syf, syg, syh, reduceCtorEq, e22, e6, e8, e9, e12, decide_true]
    exact R_out ⟨⟨y + 1, G11, c7, I.set (1 + y) false, by omega, rfl, h11, fun n hn => by
      by_cases h1 : n = 1
      · exact .inl h1
      · rw [hqq n h1] at hn; exact hq10 n hn, by rw [hst11.2.2.2.1, s3], by rw [List.length_set]; exact hIl, fun a h1 h2 => by rw [List.getElem?_set_ne (by omega)]; exact hI a (by omega) h2, by rw [freeN_set hIy, hfI]; omega, hv11, hr11, hx10.trans (hx11.mono (fun _ h => .inr (.inl h)))⟩, by simp only [intOf]; omega⟩
  have hye : y = i := by omega
  subst hye
  simp (maxSteps := 1000000) (disch := omega) only [↓sy1, sy2, sy3, readOK, sy5, sy6, Nat.reduceEqDiff, ↓reduceIte, sy7, sy8, sy9, sya, oneOf, syb, syc, Nat.reduceAdd, Nat.reduceMul, syd, sye, syf, syg, syh, reduceCtorEq, F5_L3, e22, e6, e12, hlenI, Int.ofNat_lt, Nat.lt_irrefl, decide_false]
  refine call0 (free_spec h10 (by omega)) ?_
  rintro _ w11 ⟨rfl, G11, hx11, _⟩
  rw [hfP, hfI]
  simp (maxSteps := 1000000) (disch := omega) only [↓sy1, sy2, sy3, readOK, sy5, sy6, Nat.reduceEqDiff, ↓reduceIte, sy7, sy8, sy9, sya, oneOf, syb, syc, Nat.reduceAdd, Nat.reduceMul, syd, sye, syf, syg, syh, reduceCtorEq, e8, e9, show (((114 - z + z : Nat) : Int) = ((120 - (3 + 24 / 8) : Nat) : Int)) from by omega, show (((23 - y + y : Nat) : Int) = ((24 - 1 : Nat) : Int)) from by omega, decide_true]
  exact R_out ((hx10.trans (hx11.mono (fun _ h => .inr (.inl h)))).toGrow (by omega))
end Go.Proofs.Ytbnecclognibaaa

/- Arguments opened: rows of numbers, of bytes. What is only read reads as it did. -/
namespace Go.Proofs.Ytbnecclognibaaa
open Go
set_option linter.unusedSimpArgs false
open Go.RowKit Go.ChangeShapes Go.WideShapes Go.Deep Go.Joins
theorem okSlice {P : Program} {w : World} {r : Reach} {base : Nat} {t e : TypeId} {v : Value} (ht : P.underlying t = some (.slice e)) (h : Value.okWide P w r base t v) :
    v = .slice none 0 0 ∨ ∃ b o len cap, v = .slice (some ⟨b, o, none⟩) len cap := by
  simp only [Value.okWide, ht, Cell.okWide] at h
  cases v with
  | slice a len cap =>
    cases a with
    | none =>
      simp only [Cell.ok, ht] at h
      cases len <;> cases cap <;> simp at h
      exact .inl rfl
    | some a =>
      simp only [Cell.ok, ht] at h
      obtain ⟨_, _, _, hs, _⟩ := h
      obtain ⟨b, o, s⟩ := a
      cases hs
      exact .inr ⟨b, o, len, cap, rfl⟩
  | _ => simp [Cell.ok, ht] at h
section
variable {H : Type} {enc : TypeId × Value → H} {w : World} {base : Nat} {spare : Nat → Bool} {held : Bool}
theorem cellsBool : Try.prog.cellsOf 4 = 1 := by kernel_rfl
theorem cellsInt : Try.prog.cellsOf 3 = 1 := by kernel_rfl
theorem cellsU8 : Try.prog.cellsOf 5 = 1 := by kernel_rfl
set_option maxRecDepth 100000 in
/-- A row of numbers. -/
theorem open_intsL {v : Value} {d : DataW H} {p : List MemPlace} {W : World} {b0 : Nat} (hv : Value.okWide Try.prog W .any b0 45 v) (h : DataW.Trod enc Try.prog W 0 (fun _ => true) true 45 v d p) :
    ∃ l : List Int, HasI W v l ∧ l.length ≤ 9223372036854775807 ∧ ∀ z ∈ l, -9223372036854775808 ≤ z ∧ z ≤ 9223372036854775807 := by
  obtain ⟨fuel, hf⟩ := h
  rcases okSlice Try.underlying45 hv with rfl | ⟨b, o, len, cap, rfl⟩
  · exact ⟨[], Has.nil 1 W, by simp, by simp⟩
  rcases open_ints Try.underlying45 Try.underlying3 cellsInt hf with ⟨hcs, _⟩ | ⟨a, len', cap', zs, hcs, _, hl, hm, hz, hx, hcell, hwz⟩
  · simp [Value.cells] at hcs
  simp only [Value.cells, List.cons.injEq, Value.slice.injEq, and_true, Option.some.injEq] at hcs
  obtain ⟨rfl, rfl, rfl⟩ := hcs
  simp only [if_true] at hz
  have hlen : (zs.take len).length = len := by rw [List.length_take]; omega
  refine ⟨zs.take len, .inl ⟨b, o, len, cap, rfl, by simp only [ints, List.length_map, hlen]; omega, hl, fun j u hj => ?_⟩, ?_, fun z hz' => ?_⟩
  · simp only [ints, List.getElem?_map, Option.map_eq_some_iff] at hj
    obtain ⟨z, hj, rfl⟩ := hj
    obtain ⟨hjl, hj⟩ := List.getElem?_eq_some_iff.1 hj
    rw [hlen] at hjl
    have := hcell j (by omega)
    rw [add_lit] at this
    rw [this, ← hj, List.getElem_take, List.getD_eq_getElem?_getD, List.getElem?_eq_getElem (by omega)]; rfl
  · rw [hlen]; have : maxLen = 9223372036854775807 := rfl; omega
  · have := bounds_i64 (hwz z (List.mem_of_mem_take hz')); omega
set_option maxRecDepth 100000 in
/-- A row of bytes. -/
theorem open_bytesL {v : Value} {d : DataW H} {p : List MemPlace} {W : World} {b0 : Nat} (hv : Value.okWide Try.prog W .any b0 29 v) (h : DataW.Trod enc Try.prog W 0 (fun _ => true) true 29 v d p) :
    ∃ l : List UInt8, HasB W v l := by
  obtain ⟨fuel, hf⟩ := h
  rcases okSlice Try.underlying29 hv with rfl | ⟨b, o, len, cap, rfl⟩
  · exact ⟨[], Has.nil 1 W⟩
  rcases open_ints Try.underlying29 Try.underlying5 cellsU8 hf with ⟨hcs, _⟩ | ⟨a, len', cap', zs, hcs, _, hl, hm, hz, hx, hcell, hwz⟩
  · simp [Value.cells] at hcs
  simp only [Value.cells, List.cons.injEq, Value.slice.injEq, and_true, Option.some.injEq] at hcs
  obtain ⟨rfl, rfl, rfl⟩ := hcs
  simp only [if_true] at hz
  have hlen : (zs.take len).length = len := by rw [List.length_take]; omega
  refine ⟨(zs.take len).map fun z => UInt8.ofNat z.toNat, .inl ⟨b, o, len, cap, rfl, by simp [bs]; omega, hl, fun j u hj => ?_⟩⟩
  simp only [bs, List.map_map, List.getElem?_map, Option.map_eq_some_iff, Function.comp] at hj
  obtain ⟨z, hj, rfl⟩ := hj
  obtain ⟨hjl, hj⟩ := List.getElem?_eq_some_iff.1 hj
  rw [hlen] at hjl
  have := hcell j (by omega)
  rw [add_lit] at this
  have hbz := bounds_u8 (hwz z (by rw [← hj, List.getElem_take]; exact List.getElem_mem _))
  rw [this, ← hj, List.getElem_take, List.getD_eq_getElem?_getD, List.getElem?_eq_getElem (by omega)]
  rw [List.getElem_take] at hj
  have hz' : ((UInt8.ofNat z.toNat).toNat : Int) = z := by rw [UInt8.toNat_ofNat']; omega
  rw [hj, hz']; rfl
theorem u8_nat {n : Int} (h : (Lit.int .u8 n).wf = true) : ∃ k : Nat, k < 256 ∧ n = (k : Int) := by
  have := bounds_u8 h
  exact ⟨n.toNat, by omega, by omega⟩
/-- What is only read reads as it did. -/
theorem argsStay {P : Program} {W W' : World} (hl : laidOutB P = true) (hb : Below W.heap.size W W') : ∀ {ts : List TypeId} {vs : List Value} {ds : List (DataW H)} {ps : List MemPlace}, (ts.all fun t => P.readableRec t && decide (t < P.types.size)) = true →
    DataW.TrodAll enc P W 0 (fun _ => true) true ts vs ds ps → (∀ x ∈ ps, x.block < W.heap.size) → DataW.TrodAll enc P W' 0 (fun b => decide (b < W.heap.size)) true ts vs ds ps
  | [], _, _, _, _, h, _ => by
    obtain ⟨rfl, rfl, rfl⟩ := trodAll_nil h
    exact trodAll_mk0
  | t :: ts, _, _, _, ht, h, hlt => by
    obtain ⟨v, vs, d, ds, p, q, rfl, rfl, rfl, h0, h1⟩ := trodAll_cons h
    simp only [List.all_cons, Bool.and_eq_true, decide_eq_true_eq] at ht
    exact trodAll_cons_mk (Below.trod hl ht.1.1 ht.1.2 h0 hb (fun x hx => hlt x (by simp [hx]))) (argsStay hl hb ht.2 h1 (fun x hx => hlt x (by simp [hx])))
end
end Go.Proofs.Ytbnecclognibaaa

/- Arguments opened: rows of groups of pages. -/
namespace Go.Proofs.Ytbnecclognibaaa
open Go
set_option linter.unusedSimpArgs false
open Go.RowKit Go.ChangeShapes Go.WideShapes Go.Deep Go.Joins
section
variable {H : Type} {enc : TypeId × Value → H} {w : World} {base : Nat} {spare : Nat → Bool} {held : Bool}
theorem spot_none {a : Addr} {v : Value} (h : w.cell? a = some v) : a.spot = none := by
  obtain ⟨b, o, s⟩ := a
  cases s with
  | none => rfl
  | some s =>
    simp only [World.cell?] at h
    split at h <;> simp at h
theorem open_intsX {c : Value} {fuel : Nat} {x : DataW H × List MemPlace} (h : DataW.trod enc Try.prog w base (fun _ => true) held fuel 45 [c] = some x) : ∃ l : List Int, HasX w c l := by
  rcases open_ints Try.underlying45 Try.underlying3 cellsInt h with ⟨hcs, _⟩ | ⟨a, len, cap, zs, hcs, _, hl, hm, hz, hx, hcell, hwz⟩
  · cases hcs; exact ⟨[], .inl (Has.nil 1 w)⟩
  · cases hcs
    simp only [if_true] at hz
    by_cases h0 : cap = 0
    · subst h0
      obtain rfl : len = 0 := by omega
      exact ⟨[], .inr ⟨rfl, a, rfl⟩⟩
    · have hs := hcell 0 (by omega)
      rw [show a.add 0 = a from if_pos rfl] at hs
      have hsp := spot_none hs
      obtain ⟨b, o, s⟩ := a
      cases hsp
      have hlen : (zs.take len).length = len := by rw [List.length_take]; omega
      refine ⟨zs.take len, .inl (.inl ⟨b, o, len, cap, rfl, by simp only [ints, List.length_map, hlen]; omega, hl, fun j u hj => ?_⟩)⟩
      simp only [ints, List.getElem?_map, Option.map_eq_some_iff] at hj
      obtain ⟨z, hj, rfl⟩ := hj
      obtain ⟨hjl, hj⟩ := List.getElem?_eq_some_iff.1 hj
      rw [hlen] at hjl
      have := hcell j (by omega)
      rw [add_lit] at this
      rw [this, ← hj, List.getElem_take, List.getD_eq_getElem?_getD, List.getElem?_eq_getElem (by omega)]; rfl
theorem cellsInts : Try.prog.cellsOf 45 = 1 := by kernel_rfl
end
end Go.Proofs.Ytbnecclognibaaa
