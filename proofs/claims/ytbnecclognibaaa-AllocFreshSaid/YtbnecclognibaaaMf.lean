/- Texts of one claim, put together in their order: what each proves stands ahead of it. -/
import Derived.Test.YtbnecclognibaaaMe
import Derived.Test.YtbnecclognibaaaMc
import Derived.Carry
import Derived.Deep.Slices
import Derived.Lib.SmallJoins
import Derived.OpenShut
import Derived.Test.YtbnecclognibaaaMd
/- AllocFresh: the walk. -/
namespace Go.Proofs.Ytbnecclognibaaa
open Go
set_option linter.unusedSimpArgs false
open Go.RowKit (intOf)
theorem upto1_unset {n N : Nat} (h : n < N) : (upto1 (n + 1) N).set n false = upto1 n N := by
  refine List.ext_getElem? fun i => ?_
  rw [List.getElem?_set]
  split
  · rename_i he; subst he
    rw [upto1_length, if_pos h, upto1_get h, decide_eq_false (by omega)]
  · by_cases hi : i < N
    · rw [upto1_get hi, upto1_get hi]
      refine congrArg some (decide_eq_decide.2 ?_)
      omega
    · rw [List.getElem?_eq_none (by rw [upto1_length]; omega), List.getElem?_eq_none (by rw [upto1_length]; omega)]
/-- A page of files is written. -/
theorem mwrite_ok {G : Gh} {κ μ m p lq came : Nat} {w : World} {c : Csh} {P I : List Bool} (h : MapAt G κ μ w m p lq came c P I) {n : Nat} {bv : Value} {b : List UInt8} (hb : HasB w bv b) (hl : b.length = 512) (hn : 3 ≤ n) (hN : n < c.N) (hq : c.q n = none → c.dirty.length < c.cap) :
    Calls Try.prog 11 #[.pointer (some ⟨p, 0, none⟩), .int .i64 n, bv] w (Ret fun v w' => v = .int .i64 0 ∧ ∃ G', Ext (fun x => x = μ) G w G' w' ∧ MapAt G' κ μ w' m p lq came (c.write n b) P I ∧ Step c (c.write n b) 1) := by
  have hcode : c.wcode (n : Int) b.length = 0 := wcode_zero hN hl hq
  have hne := h.1.cache.ne
  refine Ret.mono (cswrite_spec h.1.cache (n := n) hb (by omega)) fun _ _ ⟨h2, G', h3, h4⟩ => ?_
  rw [hcode] at h2
  rw [if_pos hcode] at h3
  refine ⟨h2, G', h4, ⟨h.1.put h4 (fun hh => hne.2.1 hh.symm) h3 rfl, h.2.write hn⟩, rfl, rfl, rfl, rfl, ?_⟩
  rw [write_dirty hN]; split <;> omega
set_option maxHeartbeats 8000000 in
theorem allocFresh_walk {w : World} {x n : Nat} (hx : x < 256) (hn : n < 256) :
    Calls Try.prog 4 #[.int .u8 x, .int .u8 n] w (Ret fun v w' => v = .bool true ∧ Grow w w') := by
  apply enter4
  apply R_in
  simp (maxSteps := 1000000) (disch := omega) only [↓sy1, sy2, sy3, readOK, sy5, sy6, Nat.reduceEqDiff, ↓reduceIte, sy7, sy8, sy9, sya, oneOf, syb, syc, Nat.reduceAdd, Nat.reduceMul, syd, sye, syf, syg, syh, reduceCtorEq, F4]
  refine call0 (cached_spec G00 (pages := 60) (size := 50) 2 7 (by omega) (by omega) (by omega) (by omega) (by omega) (by omega)) ?_
  rintro _ w1 ⟨p, lq, G1, rfl, hp1, hc1, hx1⟩
  simp (maxSteps := 1000000) (disch := omega) only [↓sy1, sy2, sy3, readOK, sy5, sy6, Nat.reduceEqDiff, ↓reduceIte, sy7, sy8, sy9, sya, oneOf, syb, syc, Nat.reduceAdd, Nat.reduceMul, syd, sye, syf, syg, syh, reduceCtorEq]
  have hN := ac_N 60 50
  have hd := ac_dirty 60 50
  have hcap : (ac 60 50).cap = 50 := ac_cap 60 50
  have hops := ac_ops 60 50
  generalize ac 60 50 = c0 at hc1 hN hd hcap hops
  have hmay : mayA c0.N ((8 : Nat) : Int) := by unfold mayA; omega
  refine call0 (make_ok hc1 (by omega) (k := 8) hmay (by rw [hd, hcap]; simp)) ?_
  rintro _ w2 ⟨m, G2, c1, rfl, hm2, h2, hst1, hx2⟩
  obtain ⟨n1, n2, n3, n4, n5⟩ := id hst1
  rw [hN] at h2 n1
  rw [hcap] at n4
  have hx02 := (hx1.mono (κ' := fun x => x = 2 ∨ x = 7 ∨ x = 6) (fun _ h => h.elim)).trans (hx2.mono (fun _ h => .inr (.inl h)))
  clear hx1 hx2 hc1
  simp (maxSteps := 1000000) (disch := omega) only [↓sy1, sy2, sy3, readOK, sy5, sy6, Nat.reduceEqDiff, ↓reduceIte, sy7, sy8, sy9, sya, oneOf, syb, syc, Nat.reduceAdd, Nat.reduceMul, syd, sye, syf, syg, syh, reduceCtorEq]
  refine call0 (live5_spec _) ?_
  rintro _ w3 ⟨rfl, hg3⟩
  simp (maxSteps := 1000000) (disch := omega) only [↓sy1, sy2, sy3, readOK, sy5, sy6, Nat.reduceEqDiff, ↓reduceIte, sy7, sy8, sy9, sya, oneOf, syb, syc, Nat.reduceAdd, Nat.reduceMul, syd, sye, syf, syg, syh, reduceCtorEq, Bool.not_true, decide_true]
  refine call0 (mcommit_ok (h2.grow hg3) (by rw [n2]; omega)) ?_
  rintro _ w4 ⟨rfl, G4, hx4, h4⟩
  obtain ⟨m1, m2, m3, _, _⟩ := commit_facts h2.1.cache.oks
  have hx04 := (hx02.trans (.grow hg3)).trans (hx4.mono (fun _ h => h.elim .inl (fun h => .inr (.inl h))))
  rw [n1] at m1
  rw [n4] at m3
  generalize c1.commit = c2 at h4 m1 m2 m3
  have hmod : ((n : Int)).tmod 20 = ((n % 20 : Nat) : Int) := rfl
  have hq : n % 20 < 20 := Nat.mod_lt _ (by omega)
  have hx256 : ((UInt8.ofNat x).toNat : Int) = x := by rw [UInt8.toNat_ofNat']; omega
  simp (maxSteps := 1000000) (disch := omega) only [↓sy1, sy2, sy3, readOK, sy5, sy6, Nat.reduceEqDiff, ↓reduceIte, sy7, sy8, sy9, sya, oneOf, syb, syc, Nat.reduceAdd, Nat.reduceMul, syd, sye, syf, syg, syh, reduceCtorEq, decide_true]
  clear hx02 hx4 h2
  refine loop_rule (fun e w' => ∃ (i : Nat) (G' : Gh) (c' : Csh), i ≤ n % 20 + 1 ∧ e 9 = .int .i64 i ∧ e 6 = .pointer (some ⟨m, 0, none⟩) ∧ e 5 = .pointer (some ⟨p, 0, none⟩) ∧ e 0 = .int .u8 x ∧ e 1 = .int .u8 n ∧ e 8 = .int .i64 (if i = 0 then 0 else 3 + i : Nat) ∧
      MapAt G' 2 7 w' m p lq 0 c' (upto1 (4 + i) 60) (upto1 1 8) ∧ Step c2 c' (2 * i) ∧ (i ≠ 0 → c'.q (3 + i) ≠ none) ∧ Ext (fun x => x = 2 ∨ x = 7 ∨ x = 6) G00 w G' w') (fun e _ => n % 20 + 1 - (intOf (e 9)).toNat)
    ⟨0, G4, c2, by omega, by simp [upd, updO, ev], by simp [upd, updO, ev], by simp [upd, updO, ev], by simp [upd, updO, ev], by simp [upd, updO, ev], by simp [upd, updO, ev], h4, Step.zero _, fun h => absurd rfl h, hx04⟩ ?_
  clear h4 hx04
  rintro e w5 ⟨i, G5, c3, hi, e9, e6, e5, e0, e1, e8, h5, hst5, hq5, hx5⟩
  obtain ⟨s1, s2, s3, s4, s5⟩ := id hst5
  rw [m2] at s5
  simp only [List.length_nil] at s5
  by_cases hlt : i ≤ n % 20
  · have hf := firstN_upto (n := 4 + i) (N := 60) (by omega)
    simp (maxSteps := 1000000) (disch := omega) only [↓sy1, sy2, sy3, readOK, sy5, sy6, Nat.reduceEqDiff, ↓reduceIte, sy7, sy8, sy9, sya, oneOf, syb, syc, Nat.reduceAdd, Nat.reduceMul, syd, sye, syf, syg, syh, reduceCtorEq, F4_L0, e9, e6, e5, e0, e1, hmod, show ((i : Int) ≤ ((n % 20 : Nat) : Int)) from by omega, decide_true]
    refine call0 (page_ok h5 (by rw [hf, upto1_length]; omega) (by omega)) ?_
    rintro _ w6 ⟨G6, c4, hx6, rfl, h6, hst6, _, hq6⟩
    rw [hf] at h6 hq6 ⊢
    rw [upto1_set (by omega)] at h6
    simp (maxSteps := 1000000) (disch := omega) only [↓sy1, sy2, sy3, readOK, sy5, sy6, Nat.reduceEqDiff, ↓reduceIte, sy7, sy8, sy9, sya, oneOf, syb, syc, Nat.reduceAdd, Nat.reduceMul, syd, sye, syf, syg, syh, reduceCtorEq, e9, e6, e5, e0, e1]
    refine R_out ⟨⟨i + 1, G6, c4, by omega, rfl, ?_, h6, (hst5.trans hst6).le (by omega), fun _ => by rw [show 3 + (i + 1) = 4 + i from by omega]; exact hq6, hx5.trans (hx6.mono (fun _ h => .inr (.inl h)))⟩, by simp only [intOf]; omega⟩
    rw [if_neg (by omega), show 3 + (i + 1) = 4 + i from by omega]
  have hie : i = n % 20 + 1 := by omega
  rw [if_neg (by omega)] at e8
  have hq5 := hq5 (by omega)
  obtain ⟨k, hk⟩ : ∃ k, k = 3 + i := ⟨_, rfl⟩
  rw [← hk] at e8 hq5
  rw [show 4 + i = k + 1 from by omega] at h5
  have hk60 : 4 ≤ k ∧ k < 24 := by omega
  have s5 : c3.dirty.length ≤ 40 := by omega
  simp (maxSteps := 1000000) (disch := omega) only [↓sy1, sy2, sy3, readOK, sy5, sy6, Nat.reduceEqDiff, ↓reduceIte, sy7, sy8, sy9, sya, oneOf, syb, syc, Nat.reduceAdd, Nat.reduceMul, syd, sye, syf, syg, syh, reduceCtorEq, F4_L0, e9, e6, e5, e0, e1, hmod, show ¬ ((i : Int) ≤ ((n % 20 : Nat) : Int)) from by omega, decide_false]
  clear hst5 e9 hlt hie hi hk hmod hq hn
  refine mkz_rule (fun zv w6 hg6 hz => ?_)
  have hx6 : Ext0 G5 w5 (G5.upto w5.heap.size (fun _ => 6) (fun _ => 0)) w6 := .upto hg6 _ _
  have h6 := h5.ext hx6 id id id
  have hzb : ∀ b, zv.ownBlock = some b → (G5.upto w5.heap.size (fun _ => 6) (fun _ => 0)).own b = 6 ∧ (G5.upto w5.heap.size (fun _ => 6) (fun _ => 0)).fix b = 0 := fun b hb => upto_own (World.ownsRow.lt hz b hb).1
  generalize (G5.upto w5.heap.size (fun _ => 6) (fun _ => 0)) = G6 at hx6 h6 hzb
  have hx06 := hx5.trans (hx6.mono (fun _ h => h.elim))
  have hzl : ∀ w', lenF w' 0 zv = some (.int .i64 512) := fun w' => by rw [Has.lenB (Has.own hz), zsec_length]; rfl
  clear hx5 hx6 h5
  simp (maxSteps := 1000000) (disch := omega) only [↓sy1, sy2, sy3, readOK, sy5, sy6, Nat.reduceEqDiff, ↓reduceIte, sy7, sy8, sy9, sya, oneOf, syb, syc, Nat.reduceAdd, Nat.reduceMul, syd, sye, syf, syg, syh, reduceCtorEq]
  refine loop_rule (fun e w' => ∃ (j : Nat) (ys : List UInt8), j ≤ 512 ∧ ys.length = 512 ∧ e 11 = .int .i64 j ∧ e 10 = zv ∧ e 6 = .pointer (some ⟨m, 0, none⟩) ∧ e 5 = .pointer (some ⟨p, 0, none⟩) ∧ e 0 = .int .u8 x ∧ e 8 = .int .i64 k ∧ w'.ownsRow w5.heap.size 5 1 zv 512 (bs ys) ∧ Ext (fun x => x = 6) G6 w6 G6 w') (fun e _ => 512 - (intOf (e 11)).toNat)
    ⟨0, zsec, by omega, zsec_length, by simp [upd, updO, ev], by simp [upd, updO, ev], by simp [upd, updO, ev, e6], by simp [upd, updO, ev, e5], by simp [upd, updO, ev, e0], by simp [upd, updO, ev, e8], hz, .refl _ _ _⟩ ?_
  clear e0 e1 e5 e6 e8
  rintro e w7 ⟨j, ys, hj, hyl, e11, e10, e6, e5, e0, e8, ho7, hx7⟩
  by_cases hlt : j < 512
  · obtain ⟨a, w8, ha, hst, ho8, hk8, hbk⟩ := own_store ho7 hlt (u := .int .u8 (x : Int)) rfl
    simp (maxSteps := 1000000) (disch := omega) only [↓sy1, sy2, sy3, readOK, sy5, sy6, Nat.reduceEqDiff, ↓reduceIte, sy7, sy8, sy9, sya, oneOf, syb, syc, Nat.reduceAdd, Nat.reduceMul, syd, sye, syf, syg, syh, reduceCtorEq, F4_L1, e11, e10, e6, e5, e0, e8, hzl, show ((j : Int) < 512) from by omega, decide_true, ha, hst]
    refine R_out ⟨⟨j + 1, ys.set j (UInt8.ofNat x), by omega, by simpa using hyl, rfl, ?_, hx7.trans (.onS0 hk8 hzb)⟩, by simp only [intOf]; omega⟩
    have : (bs ys).set j (.int .u8 (x : Int)) = bs (ys.set j (UInt8.ofNat x)) := by simp only [bs, List.map_set, hx256]
    rw [this] at ho8; exact ho8
  have h7 := h6.ext hx7 (by omega) (by omega) (by omega)
  have hx07 := hx06.trans (hx7.mono (fun _ h => .inr (.inr h)))
  clear h6 hx06 hx7 hz
  simp (maxSteps := 1000000) (disch := omega) only [↓sy1, sy2, sy3, readOK, sy5, sy6, Nat.reduceEqDiff, ↓reduceIte, sy7, sy8, sy9, sya, oneOf, syb, syc, Nat.reduceAdd, Nat.reduceMul, syd, sye, syf, syg, syh, reduceCtorEq, F4_L1, e11, e10, e6, e5, e0, e8, hzl, show ¬ ((j : Int) < 512) from by omega, decide_false]
  refine call0 (mwrite_ok h7 (n := k) (Has.own ho7) hyl (by omega) (by omega) (fun hh => absurd hh hq5)) ?_
  rintro _ w8 ⟨rfl, G8, hx8, h8, hst8⟩
  obtain ⟨t1, t2, t3, t4, t5⟩ := id hst8
  generalize c3.write k ys = c4 at h8 hst8 t1 t2 t3 t4 t5
  have hgc : giveC (upto1 (k + 1) 60) (k : Int) (3 + (upto1 1 8).length / 8 : Nat) = 0 := by
    unfold giveC
    rw [upto1_length, upto1_length, if_neg (by omega), show ((k : Int)).toNat = k from rfl, upto1_get (by omega), decide_eq_true (by omega), if_pos rfl]
  simp (maxSteps := 1000000) (disch := omega) only [↓sy1, sy2, sy3, readOK, sy5, sy6, Nat.reduceEqDiff, ↓reduceIte, sy7, sy8, sy9, sya, oneOf, syb, syc, Nat.reduceAdd, Nat.reduceMul, syd, sye, syf, syg, syh, reduceCtorEq, e6, e5, e8, decide_true, Bool.not_true]
  refine call0 (givep_ok h8 (n := k) (by omega)) ?_
  rintro _ w9 ⟨G9, c5, hx9, rfl, h9, hst9, _⟩
  obtain ⟨u1, u2, u3, u4, u5⟩ := id hst9
  rw [giveL, if_pos hgc, show ((k : Int)).toNat = k from rfl, upto1_unset (by omega)] at h9
  rw [hgc]
  have hf := firstN_upto (n := k) (N := 60) (by omega)
  simp (maxSteps := 1000000) (disch := omega) only [↓sy1, sy2, sy3, readOK, sy5, sy6, Nat.reduceEqDiff, ↓reduceIte, sy7, sy8, sy9, sya, oneOf, syb, syc, Nat.reduceAdd, Nat.reduceMul, syd, sye, syf, syg, syh, reduceCtorEq, e6, e5, e8, decide_true, Bool.not_true]
  refine call0 (page_ok h9 (by rw [hf, upto1_length]; omega) (by omega)) ?_
  rintro _ w10 ⟨G10, c6, hx10, rfl, h10, hst10, hp10, _⟩
  obtain ⟨v1, v2, v3, v4, v5⟩ := id hst10
  rw [hf] at hp10 h10 ⊢
  simp (maxSteps := 1000000) (disch := omega) only [↓sy1, sy2, sy3, readOK, sy5, sy6, Nat.reduceEqDiff, ↓reduceIte, sy7, sy8, sy9, sya, oneOf, syb, syc, Nat.reduceAdd, Nat.reduceMul, syd, sye, syf, syg, syh, reduceCtorEq, e5]
  refine call0 (csread_spec h10.1.cache (n := k) (by omega)) ?_
  rintro _ w11 ⟨u, G11, rfl, hu, hc11, hx11⟩
  rw [hp10] at hu
  have hul : ∀ w', lenF w' 0 u = some (.int .i64 512) := fun w' => by rw [Has.lenB (Has.own hu), zsec_length]; rfl
  have hx011 := (((hx07.trans (hx8.mono (fun _ h => .inr (.inl h)))).trans (hx9.mono (fun _ h => .inr (.inl h)))).trans (hx10.mono (fun _ h => .inr (.inl h)))).trans (hx11.mono (fun _ h => .inr (.inl h)))
  have hgz : Grow w w11 := hx011.toGrow (by omega)
  simp (maxSteps := 1000000) (disch := omega) only [↓sy1, sy2, sy3, readOK, sy5, sy6, Nat.reduceEqDiff, ↓reduceIte, sy7, sy8, sy9, sya, oneOf, syb, syc, Nat.reduceAdd, Nat.reduceMul, syd, sye, syf, syg, syh, reduceCtorEq, e8, hul, decide_true, Bool.not_true]
  refine loop_rule (fun e w' => ∃ j : Nat, j ≤ 512 ∧ e 16 = .int .i64 j ∧ e 14 = u ∧ w11 = w') (fun e _ => 512 - (intOf (e 16)).toNat)
    ⟨0, by omega, by simp [upd, updO, ev], by simp [upd, updO, ev], rfl⟩ ?_
  rintro e _ ⟨j, hj, e16, e14, rfl⟩
  by_cases hlt : j < 512
  · obtain ⟨a, ha, hc, _⟩ := (Has.own hu).getB (i := j) (by rw [zsec_length]; omega)
    have hz0 : ((zsec[j]'(by rw [zsec_length]; omega)).toNat : Int) = 0 := by
      have h0 : zsec[j]'(by rw [zsec_length]; omega) = 0 := List.getElem_replicate ..
      rw [h0]; rfl
    rw [hz0] at hc
    simp (maxSteps := 1000000) (disch := omega) only [↓sy1, sy2, sy3, readOK, sy5, sy6, Nat.reduceEqDiff, ↓reduceIte, sy7, sy8, sy9, sya, oneOf, syb, syc, Nat.reduceAdd, Nat.reduceMul, syd, sye, syf, syg, syh, reduceCtorEq, F4_L2, e16, e14, hul, show ((j : Int) < 512) from by omega, decide_true, ha, hc]
    exact R_out ⟨⟨j + 1, by omega, rfl⟩, by simp only [intOf]; omega⟩
  · simp (maxSteps := 1000000) (disch := omega) only [↓sy1, sy2, sy3, readOK, sy5, sy6, Nat.reduceEqDiff, ↓reduceIte, sy7, sy8, sy9, sya, oneOf, syb, syc, Nat.reduceAdd, Nat.reduceMul, syd, sye, syf, syg, syh, reduceCtorEq, F4_L2, e16, e14, hul, show ¬ ((j : Int) < 512) from by omega, decide_false]
    exact R_out hgz
end Go.Proofs.Ytbnecclognibaaa

/- Arguments opened: rows of numbers, of bytes. What is only read reads as it did. -/
namespace Go.Proofs.Ytbnecclognibaaa
open Go
set_option linter.unusedSimpArgs false
open Go.RowKit Go.ChangeShapes Go.WideShapes Go.Deep Go.Joins
theorem okSlice {P : Program} {w : World} {r : Reach} {base : Nat} {t e : TypeId} {v : Value} (ht : P.underlying t = some (.slice e)) (h : Value.okWide P w r base t v) :
    v = .slice none 0 0 ∨ ∃ b o len cap, v = .slice (some ⟨b, o, none⟩) len cap := by
  simp only [Value.okWide, ht, Cell.okWide] at h
  cases v with
  | slice a len cap =>
    cases a with
    | none =>
      simp only [Cell.ok, ht] at h
      cases len <;> cases cap <;> simp at h
      exact .inl rfl
    | some a =>
      simp only [Cell.ok, ht] at h
      obtain ⟨_, _, _, hs, _⟩ := h
      obtain ⟨b, o, s⟩ := a
      cases hs
      exact .inr ⟨b, o, len, cap, rfl⟩
  | _ => simp [Cell.ok, ht] at h
section
variable {H : Type} {enc : TypeId × Value → H} {w : World} {base : Nat} {spare : Nat → Bool} {held : Bool}
theorem cellsBool : Try.prog.cellsOf 4 = 1 := by kernel_rfl
theorem cellsInt : Try.prog.cellsOf 3 = 1 := by kernel_rfl
theorem cellsU8 : Try.prog.cellsOf 5 = 1 := by kernel_rfl
set_option maxRecDepth 100000 in
/-- A row of numbers. -/
theorem open_intsL {v : Value} {d : DataW H} {p : List MemPlace} {W : World} {b0 : Nat} (hv : Value.okWide Try.prog W .any b0 45 v) (h : DataW.Trod enc Try.prog W 0 (fun _ => true) true 45 v d p) :
    ∃ l : List Int, HasI W v l ∧ l.length ≤ 9223372036854775807 ∧ ∀ z ∈ l, -9223372036854775808 ≤ z ∧ z ≤ 9223372036854775807 := by
  obtain ⟨fuel, hf⟩ := h
  rcases okSlice Try.underlying45 hv with rfl | ⟨b, o, len, cap, rfl⟩
  · exact ⟨[], Has.nil 1 W, by simp, by simp⟩
  rcases open_ints Try.underlying45 Try.underlying3 cellsInt hf with ⟨hcs, _⟩ | ⟨a, len', cap', zs, hcs, _, hl, hm, hz, hx, hcell, hwz⟩
  · simp [Value.cells] at hcs
  simp only [Value.cells, List.cons.injEq, Value.slice.injEq, and_true, Option.some.injEq] at hcs
  obtain ⟨rfl, rfl, rfl⟩ := hcs
  simp only [if_true] at hz
  have hlen : (zs.take len).length = len := by rw [List.length_take]; omega
  refine ⟨zs.take len, .inl ⟨b, o, len, cap, rfl, by simp only [ints, List.length_map, hlen]; omega, hl, fun j u hj => ?_⟩, ?_, fun z hz' => ?_⟩
  · simp only [ints, List.getElem?_map, Option.map_eq_some_iff] at hj
    obtain ⟨z, hj, rfl⟩ := hj
    obtain ⟨hjl, hj⟩ := List.getElem?_eq_some_iff.1 hj
    rw [hlen] at hjl
    have := hcell j (by omega)
    rw [add_lit] at this
    rw [this, ← hj, List.getElem_take, List.getD_eq_getElem?_getD, List.getElem?_eq_getElem (by omega)]; rfl
  · rw [hlen]; have : maxLen = 9223372036854775807 := rfl; omega
  · have := bounds_i64 (hwz z (List.mem_of_mem_take hz')); omega
set_option maxRecDepth 100000 in
/-- A row of bytes. -/
theorem open_bytesL {v : Value} {d : DataW H} {p : List MemPlace} {W : World} {b0 : Nat} (hv : Value.okWide Try.prog W .any b0 29 v) (h : DataW.Trod enc Try.prog W 0 (fun _ => true) true 29 v d p) :
    ∃ l : List UInt8, HasB W v l := by
  obtain ⟨fuel, hf⟩ := h
  rcases okSlice Try.underlying29 hv with rfl | ⟨b, o, len, cap, rfl⟩
  · exact ⟨[], Has.nil 1 W⟩
  rcases open_ints Try.underlying29 Try.underlying5 cellsU8 hf with ⟨hcs, _⟩ | ⟨a, len', cap', zs, hcs, _, hl, hm, hz, hx, hcell, hwz⟩
  · simp [Value.cells] at hcs
  simp only [Value.cells, List.cons.injEq, Value.slice.injEq, and_true, Option.some.injEq] at hcs
  obtain ⟨rfl, rfl, rfl⟩ := hcs
  simp only [if_true] at hz
  have hlen : (zs.take len).length = len := by rw [List.length_take]; omega
  refine ⟨(zs.take len).map fun z => UInt8.ofNat z.toNat, .inl ⟨b, o, len, cap, rfl, by simp [bs]; omega, hl, fun j u hj => ?_⟩⟩
  simp only [bs, List.map_map, List.getElem?_map, Option.map_eq_some_iff, Function.comp] at hj
  obtain ⟨z, hj, rfl⟩ := hj
  obtain ⟨hjl, hj⟩ := List.getElem?_eq_some_iff.1 hj
  rw [hlen] at hjl
  have := hcell j (by omega)
  rw [add_lit] at this
  have hbz := bounds_u8 (hwz z (by rw [← hj, List.getElem_take]; exact List.getElem_mem _))
  rw [this, ← hj, List.getElem_take, List.getD_eq_getElem?_getD, List.getElem?_eq_getElem (by omega)]
  rw [List.getElem_take] at hj
  have hz' : ((UInt8.ofNat z.toNat).toNat : Int) = z := by rw [UInt8.toNat_ofNat']; omega
  rw [hj, hz']; rfl
theorem u8_nat {n : Int} (h : (Lit.int .u8 n).wf = true) : ∃ k : Nat, k < 256 ∧ n = (k : Int) := by
  have := bounds_u8 h
  exact ⟨n.toNat, by omega, by omega⟩
/-- What is only read reads as it did. -/
theorem argsStay {P : Program} {W W' : World} (hl : laidOutB P = true) (hb : Below W.heap.size W W') : ∀ {ts : List TypeId} {vs : List Value} {ds : List (DataW H)} {ps : List MemPlace}, (ts.all fun t => P.readableRec t && decide (t < P.types.size)) = true →
    DataW.TrodAll enc P W 0 (fun _ => true) true ts vs ds ps → (∀ x ∈ ps, x.block < W.heap.size) → DataW.TrodAll enc P W' 0 (fun b => decide (b < W.heap.size)) true ts vs ds ps
  | [], _, _, _, _, h, _ => by
    obtain ⟨rfl, rfl, rfl⟩ := trodAll_nil h
    exact trodAll_mk0
  | t :: ts, _, _, _, ht, h, hlt => by
    obtain ⟨v, vs, d, ds, p, q, rfl, rfl, rfl, h0, h1⟩ := trodAll_cons h
    simp only [List.all_cons, Bool.and_eq_true, decide_eq_true_eq] at ht
    exact trodAll_cons_mk (Below.trod hl ht.1.1 ht.1.2 h0 hb (fun x hx => hlt x (by simp [hx]))) (argsStay hl hb ht.2 h1 (fun x hx => hlt x (by simp [hx])))
end
end Go.Proofs.Ytbnecclognibaaa

/- Arguments opened: rows of groups of pages. -/
namespace Go.Proofs.Ytbnecclognibaaa
open Go
set_option linter.unusedSimpArgs false
open Go.RowKit Go.ChangeShapes Go.WideShapes Go.Deep Go.Joins
section
variable {H : Type} {enc : TypeId × Value → H} {w : World} {base : Nat} {spare : Nat → Bool} {held : Bool}
theorem spot_none {a : Addr} {v : Value} (h : w.cell? a = some v) : a.spot = none := by
  obtain ⟨b, o, s⟩ := a
  cases s with
  | none => rfl
  | some s =>
    simp only [World.cell?] at h
    split at h <;> simp at h
theorem open_intsX {c : Value} {fuel : Nat} {x : DataW H × List MemPlace} (h : DataW.trod enc Try.prog w base (fun _ => true) held fuel 45 [c] = some x) : ∃ l : List Int, HasX w c l := by
  rcases open_ints Try.underlying45 Try.underlying3 cellsInt h with ⟨hcs, _⟩ | ⟨a, len, cap, zs, hcs, _, hl, hm, hz, hx, hcell, hwz⟩
  · cases hcs; exact ⟨[], .inl (Has.nil 1 w)⟩
  · cases hcs
    simp only [if_true] at hz
    by_cases h0 : cap = 0
    · subst h0
      obtain rfl : len = 0 := by omega
      exact ⟨[], .inr ⟨rfl, a, rfl⟩⟩
    · have hs := hcell 0 (by omega)
      rw [show a.add 0 = a from if_pos rfl] at hs
      have hsp := spot_none hs
      obtain ⟨b, o, s⟩ := a
      cases hsp
      have hlen : (zs.take len).length = len := by rw [List.length_take]; omega
      refine ⟨zs.take len, .inl (.inl ⟨b, o, len, cap, rfl, by simp only [ints, List.length_map, hlen]; omega, hl, fun j u hj => ?_⟩)⟩
      simp only [ints, List.getElem?_map, Option.map_eq_some_iff] at hj
      obtain ⟨z, hj, rfl⟩ := hj
      obtain ⟨hjl, hj⟩ := List.getElem?_eq_some_iff.1 hj
      rw [hlen] at hjl
      have := hcell j (by omega)
      rw [add_lit] at this
      rw [this, ← hj, List.getElem_take, List.getD_eq_getElem?_getD, List.getElem?_eq_getElem (by omega)]; rfl
theorem cellsInts : Try.prog.cellsOf 45 = 1 := by kernel_rfl
end
end Go.Proofs.Ytbnecclognibaaa
