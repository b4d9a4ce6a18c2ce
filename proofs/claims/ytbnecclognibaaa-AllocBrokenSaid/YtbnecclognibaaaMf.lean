/- Texts of one claim, put together in their order: what each proves stands ahead of it. -/
import Derived.Test.YtbnecclognibaaaMe
import Derived.Test.YtbnecclognibaaaMc
import Derived.Carry
import Derived.Deep.Slices
import Derived.Lib.SmallJoins
import Derived.OpenShut
import Derived.Test.YtbnecclognibaaaMd
/- AllocBroken: the walk. -/
namespace Go.Proofs.Ytbnecclognibaaa
open Go
set_option linter.unusedSimpArgs false
open Go.RowKit (intOf)
theorem superB_outside {N k n i : Nat} (h : i < 8 ∨ 12 ≤ i) : (superB N k)[i]? = (superB N n)[i]? := by
  have h1 : ∀ z, superB N z = ([68, 85, 78, 49] ++ super4 N) ++ (super4 z ++ List.replicate 500 0) := fun z => List.append_assoc _ _ _
  have hl : ([68, 85, 78, 49] ++ super4 N).length = 8 := rfl
  have h4 : ∀ z, (super4 z).length = 4 := fun z => rfl
  rw [h1 k, h1 n]
  generalize [68, 85, 78, 49] ++ super4 N = A at hl
  rcases h with h | h
  · rw [List.getElem?_append_left (by omega), List.getElem?_append_left (by omega)]
  · have h5 : ∀ z, (A ++ (super4 z ++ List.replicate 500 0))[i]? = (List.replicate 500 (0 : UInt8))[i - 8 - 4]? := fun z => by
      rw [List.getElem?_append_right (by omega), hl, List.getElem?_append_right (by rw [h4]; omega), h4]
    rw [h5, h5]
set_option maxHeartbeats 4000000 in
theorem allocBroken_walk {w : World} {at_ x : Nat} (ha : at_ < 65536) (hx : x < 256) :
    Calls Try.prog 3 #[.int .u16 at_, .int .u8 x] w (Ret fun v w' => v = .bool true ∧ Grow w w') := by
  apply enter3
  apply R_in
  simp (maxSteps := 1000000) (disch := omega) only [↓sy1, sy2, sy3, readOK, sy5, sy6, Nat.reduceEqDiff, ↓reduceIte, sy7, sy8, sy9, sya, oneOf, syb, syc, Nat.reduceAdd, Nat.reduceMul, syd, sye, syf, syg, syh, reduceCtorEq, F3]
  refine call0 (cached_spec G00 (pages := 60) (size := 50) 2 7 (by omega) (by omega) (by omega) (by omega) (by omega) (by omega)) ?_
  rintro _ w1 ⟨p, lq, G1, rfl, hp1, hc1, hx1⟩
  simp (maxSteps := 1000000) (disch := omega) only [↓sy1, sy2, sy3, readOK, sy5, sy6, Nat.reduceEqDiff, ↓reduceIte, sy7, sy8, sy9, sya, oneOf, syb, syc, Nat.reduceAdd, Nat.reduceMul, syd, sye, syf, syg, syh, reduceCtorEq]
  have hN := ac_N 60 50
  have hd := ac_dirty 60 50
  have hcap : (ac 60 50).cap = 50 := ac_cap 60 50
  generalize ac 60 50 = c0 at hc1 hN hd hcap
  have hmay : mayA c0.N ((16 : Nat) : Int) := by unfold mayA; omega
  refine call0 (make_ok hc1 (by omega) (k := 16) hmay (by rw [hd, hcap]; simp)) ?_
  rintro _ w2 ⟨m, G2, c1, rfl, hm2, h2, hst1, hx2⟩
  obtain ⟨n1, n2, n3, n4, n5⟩ := id hst1
  rw [hd] at n5
  simp only [List.length_nil] at n5
  have hs0 : c1.page 0 = superB 60 16 := by
    have := h2.2.s
    rw [upto1_length, n1, hN] at this; exact this
  simp (maxSteps := 1000000) (disch := omega) only [↓sy1, sy2, sy3, readOK, sy5, sy6, Nat.reduceEqDiff, ↓reduceIte, sy7, sy8, sy9, sya, oneOf, syb, syc, Nat.reduceAdd, Nat.reduceMul, syd, sye, syf, syg, syh, reduceCtorEq]
  refine call0 (csread_strong h2.1.cache (n := 0) (by omega)) ?_
  rintro _ w4 ⟨u, G3, w3, rfl, hu, hc3, hx3, hg4⟩
  have hx4 : Ext0 G3 w3 (G3.upto w3.heap.size (fun _ => 6) (fun _ => 0)) w4 := .upto hg4 _ _
  have hc4 := hc3.ext hx4 id id id
  have hub : ∀ b, u.ownBlock = some b → (G3.upto w3.heap.size (fun _ => 6) (fun _ => 0)).own b = 6 ∧ (G3.upto w3.heap.size (fun _ => 6) (fun _ => 0)).fix b = 0 := fun b hb => upto_own (World.ownsRow.lt hu b hb).1
  generalize (G3.upto w3.heap.size (fun _ => 6) (fun _ => 0)) = G4 at hx4 hc4 hub
  have hx04 : Ext (fun x => x = 7 ∨ x = 6) G00 w G4 w4 := (((hx1.mono (fun _ h => h.elim)).trans (hx2.mono (fun _ h => .inl h))).trans (hx3.mono (fun _ h => .inl h))).trans (hx4.mono (fun _ h => h.elim))
  rw [hs0] at hu
  have hul : ∀ w', lenF w' 0 u = some (.int .i64 512) := fun w' => by rw [Has.lenB (Has.own hu), superB_length]; rfl
  simp (maxSteps := 1000000) (disch := omega) only [↓sy1, sy2, sy3, readOK, sy5, sy6, Nat.reduceEqDiff, ↓reduceIte, sy7, sy8, sy9, sya, oneOf, syb, syc, Nat.reduceAdd, Nat.reduceMul, syd, sye, syf, syg, syh, reduceCtorEq]
  refine call0 (live5_spec _) ?_
  rintro _ w5 ⟨rfl, hg5⟩
  have hu5 := own_grow hu hg5
  have hc5 := hc4.grow hg5
  have hx05 := hx04.trans (.grow hg5)
  have hmod : ((at_ : Int)).tmod 512 = ((at_ % 512 : Nat) : Int) := rfl
  have hk : at_ % 512 < 512 := Nat.mod_lt _ (by omega)
  generalize at_ % 512 = k at hmod hk
  have hsl := superB_length 60 16
  obtain ⟨a, hia, hca, _⟩ := (Has.own hu5).getB (i := k) (by omega)
  obtain ⟨a', w6, hia', hst, ho6, hk6, _⟩ := own_store hu5 hk (u := .int .u8 (x : Int)) rfl
  rw [hia] at hia'
  cases hia'
  have hxb : (bs (superB 60 16)).set k (.int .u8 (x : Int)) = bs ((superB 60 16).set k (UInt8.ofNat x)) := by
    have : ((UInt8.ofNat x).toNat : Int) = x := by rw [UInt8.toNat_ofNat']; omega
    simp only [bs, List.map_set, this]
  rw [hxb] at ho6
  have hc6 := hc5.ext (.onS0 hk6 (fun b hb => hub b hb)) (by omega) (by omega) (by omega)
  have hx06 : Ext (fun x => x = 7 ∨ x = 6) G00 w G4 w6 := hx05.trans ((Ext.onS0 hk6 (fun b hb => hub b hb)).mono (fun _ h => .inr h))
  simp (maxSteps := 1000000) (disch := omega) only [↓sy1, sy2, sy3, readOK, sy5, sy6, Nat.reduceEqDiff, ↓reduceIte, sy7, sy8, sy9, sya, oneOf, syb, syc, Nat.reduceAdd, Nat.reduceMul, syd, sye, syf, syg, syh, reduceCtorEq, hul, decide_true, hmod, hia, hca, hst]
  have hcode : c1.wcode 0 512 = 0 := wcode_zero (n := 0) (by omega) rfl (fun _ => by omega)
  refine call0 (cswrite_spec hc6 (n := 0) (b := (superB 60 16).set k (UInt8.ofNat x)) (Has.own ho6) (by rw [List.length_set]; omega)) ?_
  rintro _ w7 ⟨rfl, G7, hc7, hx7⟩
  rw [List.length_set, hsl, if_pos hcode, show ((0 : Int)).toNat = 0 from rfl] at hc7
  have hN2 : (c1.write 0 ((superB 60 16).set k (UInt8.ofNat x))).N = 60 := by rw [Csh.write_N]; omega
  have hp0 : (c1.write 0 ((superB 60 16).set k (UInt8.ofNat x))).page 0 = (superB 60 16).set k (UInt8.ofNat x) := by rw [Csh.write_page, if_pos rfl]
  generalize c1.write 0 ((superB 60 16).set k (UInt8.ofNat x)) = c2 at hc7 hN2 hp0
  have hx07 := hx06.trans (hx7.mono (fun _ h => .inl h))
  simp (maxSteps := 1000000) (disch := omega) only [↓sy1, sy2, sy3, readOK, sy5, sy6, Nat.reduceEqDiff, ↓reduceIte, sy7, sy8, sy9, sya, oneOf, syb, syc, Nat.reduceAdd, Nat.reduceMul, syd, sye, syf, syg, syh, reduceCtorEq]
  refine call0 (aopen_spec hc7 (by omega) (by omega)) ?_
  rintro v w8 ⟨G8, hx8, hR⟩
  have hgz : Grow w w8 := (hx07.trans (hx8.mono (fun _ h => .inl h))).toGrow (by omega)
  rw [OpenR, hp0, hN2] at hR
  by_cases heq : (x : Int) = ((superB 60 16)[k]'(by omega)).toNat
  · have hsame : (superB 60 16).set k (UInt8.ofNat x) = superB 60 16 := by
      have : UInt8.ofNat x = (superB 60 16)[k]'(by omega) := by
        apply UInt8.toNat_inj.1
        rw [UInt8.toNat_ofNat']; omega
      rw [this]; exact List.set_getElem_self _
    rw [hsame, inoOf_super (by omega)] at hR
    rcases hR with ⟨_, _, m2, rfl, _, hM⟩ | ⟨hn, _⟩
    · simp (maxSteps := 1000000) (disch := omega) only [↓sy1, sy2, sy3, readOK, sy5, sy6, Nat.reduceEqDiff, ↓reduceIte, sy7, sy8, sy9, sya, oneOf, syb, syc, Nat.reduceAdd, Nat.reduceMul, syd, sye, syf, syg, syh, reduceCtorEq, heq, decide_true]
      refine call0 (inodes_spec hM) ?_
      rintro _ w8 ⟨rfl, rfl⟩
      simp (maxSteps := 1000000) (disch := omega) only [↓sy1, sy2, sy3, readOK, sy5, sy6, Nat.reduceEqDiff, ↓reduceIte, sy7, sy8, sy9, sya, oneOf, syb, syc, Nat.reduceAdd, Nat.reduceMul, syd, sye, syf, syg, syh, reduceCtorEq, show (((16 : Nat) : Int)) = 16 from rfl, decide_true]
      exact R_out hgz
    · exact absurd ⟨by unfold mayA; omega, rfl⟩ hn
  · rcases hR with ⟨hm, hb, m2, rfl, _, hM⟩ | ⟨_, rfl, _⟩
    · generalize inoOf ((superB 60 16).set k (UInt8.ofNat x)) = n at hm hb hM
      have hkk : ((superB 60 16).set k (UInt8.ofNat x))[k]? = some (UInt8.ofNat x) := List.getElem?_set_self (by omega)
      have hne : (superB 60 n)[k]? ≠ (superB 60 16)[k]? := by
        rw [← hb, hkk, List.getElem?_eq_getElem (by omega)]
        intro hc
        apply heq
        have := congrArg UInt8.toNat (Option.some.inj hc)
        rw [UInt8.toNat_ofNat'] at this; omega
      have hin : 8 ≤ k ∧ k < 12 := by
        refine Classical.byContradiction fun hh => hne (superB_outside ?_)
        omega
      have hn16 : n ≠ 16 := fun hh => hne (by rw [hh])
      simp (maxSteps := 1000000) (disch := omega) only [↓sy1, sy2, sy3, readOK, sy5, sy6, Nat.reduceEqDiff, ↓reduceIte, sy7, sy8, sy9, sya, oneOf, syb, syc, Nat.reduceAdd, Nat.reduceMul, syd, sye, syf, syg, syh, reduceCtorEq, heq, decide_false, decide_true, Int.reduceEq, show ((8 : Int) ≤ (k : Int)) from by omega, show ((k : Int) < 12) from by omega]
      refine call0 (inodes_spec hM) ?_
      rintro _ w8 ⟨rfl, rfl⟩
      simp (maxSteps := 1000000) (disch := omega) only [↓sy1, sy2, sy3, readOK, sy5, sy6, Nat.reduceEqDiff, ↓reduceIte, sy7, sy8, sy9, sya, oneOf, syb, syc, Nat.reduceAdd, Nat.reduceMul, syd, sye, syf, syg, syh, reduceCtorEq, show ¬ ((n : Int) = 16) from by omega, decide_false]
      exact R_out hgz
    · simp (maxSteps := 1000000) (disch := omega) only [↓sy1, sy2, sy3, readOK, sy5, sy6, Nat.reduceEqDiff, ↓reduceIte, sy7, sy8, sy9, sya, oneOf, syb, syc, Nat.reduceAdd, Nat.reduceMul, syd, sye, syf, syg, syh, reduceCtorEq, heq, decide_false, decide_true]
      exact R_out hgz
end Go.Proofs.Ytbnecclognibaaa

/- Arguments opened: rows of numbers, of bytes. What is only read reads as it did. -/
namespace Go.Proofs.Ytbnecclognibaaa
open Go
set_option linter.unusedSimpArgs false
open Go.RowKit Go.ChangeShapes Go.WideShapes Go.Deep Go.Joins
theorem okSlice {P : Program} {w : World} {r : Reach} {base : Nat} {t e : TypeId} {v : Value} (ht : P.underlying t = some (.slice e)) (h : Value.okWide P w r base t v) :
    v = .slice none 0 0 ∨ ∃ b o len cap, v = .slice (some ⟨b, o, none⟩) len cap := by
  simp only [Value.okWide, ht, Cell.okWide] at h
  cases v with
  | slice a len cap =>
    cases a with
    | none =>
      simp only [Cell.ok, ht] at h
      cases len <;> cases cap <;> simp at h
      exact .inl rfl
    | some a =>
      simp only [Cell.ok, ht] at h
      obtain ⟨_, _, _, hs, _⟩ := h
      obtain ⟨b, o, s⟩ := a
      cases hs
      exact .inr ⟨b, o, len, cap, rfl⟩
  | _ => simp [Cell.ok, ht] at h
section
variable {H : Type} {enc : TypeId × Value → H} {w : World} {base : Nat} {spare : Nat → Bool} {held : Bool}
theorem cellsBool : Try.prog.cellsOf 4 = 1 := by kernel_rfl
theorem cellsInt : Try.prog.cellsOf 3 = 1 := by kernel_rfl
theorem cellsU8 : Try.prog.cellsOf 5 = 1 := by kernel_rfl
set_option maxRecDepth 100000 in
/-- A row of numbers. -/
theorem open_intsL {v : Value} {d : DataW H} {p : List MemPlace} {W : World} {b0 : Nat} (hv : Value.okWide Try.prog W .any b0 45 v) (h : DataW.Trod enc Try.prog W 0 (fun _ => true) true 45 v d p) :
    ∃ l : List Int, HasI W v l ∧ l.length ≤ 9223372036854775807 ∧ ∀ z ∈ l, -9223372036854775808 ≤ z ∧ z ≤ 9223372036854775807 := by
  obtain ⟨fuel, hf⟩ := h
  rcases okSlice Try.underlying45 hv with rfl | ⟨b, o, len, cap, rfl⟩
  · exact ⟨[], Has.nil 1 W, by simp, by simp⟩
  rcases open_ints Try.underlying45 Try.underlying3 cellsInt hf with ⟨hcs, _⟩ | ⟨a, len', cap', zs, hcs, _, hl, hm, hz, hx, hcell, hwz⟩
  · simp [Value.cells] at hcs
  simp only [Value.cells, List.cons.injEq, Value.slice.injEq, and_true, Option.some.injEq] at hcs
  obtain ⟨rfl, rfl, rfl⟩ := hcs
  simp only [if_true] at hz
  have hlen : (zs.take len).length = len := by rw [List.length_take]; omega
  refine ⟨zs.take len, .inl ⟨b, o, len, cap, rfl, by simp only [ints, List.length_map, hlen]; omega, hl, fun j u hj => ?_⟩, ?_, fun z hz' => ?_⟩
  · simp only [ints, List.getElem?_map, Option.map_eq_some_iff] at hj
    obtain ⟨z, hj, rfl⟩ := hj
    obtain ⟨hjl, hj⟩ := List.getElem?_eq_some_iff.1 hj
    rw [hlen] at hjl
    have := hcell j (by omega)
    rw [add_lit] at this
    rw [this, ← hj, List.getElem_take, List.getD_eq_getElem?_getD, List.getElem?_eq_getElem (by omega)]; rfl
  · rw [hlen]; have : maxLen = 9223372036854775807 := rfl; omega
  · have := bounds_i64 (hwz z (List.mem_of_mem_take hz')); omega
set_option maxRecDepth 100000 in
/-- A row of bytes. -/
theorem open_bytesL {v : Value} {d : DataW H} {p : List MemPlace} {W : World} {b0 : Nat} (hv : Value.okWide Try.prog W .any b0 29 v) (h : DataW.Trod enc Try.prog W 0 (fun _ => true) true 29 v d p) :
    ∃ l : List UInt8, HasB W v l := by
  obtain ⟨fuel, hf⟩ := h
  rcases okSlice Try.underlying29 hv with rfl | ⟨b, o, len, cap, rfl⟩
  · exact ⟨[], Has.nil 1 W⟩
  rcases open_ints Try.underlying29 Try.underlying5 cellsU8 hf with ⟨hcs, _⟩ | ⟨a, len', cap', zs, hcs, _, hl, hm, hz, hx, hcell, hwz⟩
  · simp [Value.cells] at hcs
  simp only [Value.cells, List.cons.injEq, Value.slice.injEq, and_true, Option.some.injEq] at hcs
  obtain ⟨rfl, rfl, rfl⟩ := hcs
  simp only [if_true] at hz
  have hlen : (zs.take len).length = len := by rw [List.length_take]; omega
  refine ⟨(zs.take len).map fun z => UInt8.ofNat z.toNat, .inl ⟨b, o, len, cap, rfl, by simp [bs]; omega, hl, fun j u hj => ?_⟩⟩
  simp only [bs, List.map_map, List.getElem?_map, Option.map_eq_some_iff, Function.comp] at hj
  obtain ⟨z, hj, rfl⟩ := hj
  obtain ⟨hjl, hj⟩ := List.getElem?_eq_some_iff.1 hj
  rw [hlen] at hjl
  have := hcell j (by omega)
  rw [add_lit] at this
  have hbz := bounds_u8 (hwz z (by rw [← hj, List.getElem_take]; exact List.getElem_mem _))
  rw [this, ← hj, List.getElem_take, List.getD_eq_getElem?_getD, List.getElem?_eq_getElem (by omega)]
  rw [List.getElem_take] at hj
  have hz' : ((UInt8.ofNat z.toNat).toNat : Int) = z := by rw [UInt8.toNat_ofNat']; omega
  rw [hj, hz']; rfl
theorem u8_nat {n : Int} (h : (Lit.int .u8 n).wf = true) : ∃ k : Nat, k < 256 ∧ n = (k : Int) := by
  have := bounds_u8 h
  exact ⟨n.toNat, by omega, by omega⟩
/-- What is only read reads as it did. -/
theorem argsStay {P : Program} {W W' : World} (hl : laidOutB P = true) (hb : Below W.heap.size W W') : ∀ {ts : List TypeId} {vs : List Value} {ds : List (DataW H)} {ps : List MemPlace}, (ts.all fun t => P.readableRec t && decide (t < P.types.size)) = true →
    DataW.TrodAll enc P W 0 (fun _ => true) true ts vs ds ps → (∀ x ∈ ps, x.block < W.heap.size) → DataW.TrodAll enc P W' 0 (fun b => decide (b < W.heap.size)) true ts vs ds ps
  | [], _, _, _, _, h, _ => by
    obtain ⟨rfl, rfl, rfl⟩ := trodAll_nil h
    exact trodAll_mk0
  | t :: ts, _, _, _, ht, h, hlt => by
    obtain ⟨v, vs, d, ds, p, q, rfl, rfl, rfl, h0, h1⟩ := trodAll_cons h
    simp only [List.all_cons, Bool.and_eq_true, decide_eq_true_eq] at ht
    exact trodAll_cons_mk (Below.trod hl ht.1.1 ht.1.2 h0 hb (fun x hx => hlt x (by simp [hx]))) (argsStay hl hb ht.2 h1 (fun x hx => hlt x (by simp [hx])))
end
end Go.Proofs.Ytbnecclognibaaa

/- Arguments opened: rows of groups of pages. -/
namespace Go.Proofs.Ytbnecclognibaaa
open Go
set_option linter.unusedSimpArgs false
open Go.RowKit Go.ChangeShapes Go.WideShapes Go.Deep Go.Joins
section
variable {H : Type} {enc : TypeId × Value → H} {w : World} {base : Nat} {spare : Nat → Bool} {held : Bool}
theorem spot_none {a : Addr} {v : Value} (h : w.cell? a = some v) : a.spot = none := by
  obtain ⟨b, o, s⟩ := a
  cases s with
  | none => rfl
  | some s =>
    simp only [World.cell?] at h
    split at h <;> simp at h
theorem open_intsX {c : Value} {fuel : Nat} {x : DataW H × List MemPlace} (h : DataW.trod enc Try.prog w base (fun _ => true) held fuel 45 [c] = some x) : ∃ l : List Int, HasX w c l := by
  rcases open_ints Try.underlying45 Try.underlying3 cellsInt h with ⟨hcs, _⟩ | ⟨a, len, cap, zs, hcs, _, hl, hm, hz, hx, hcell, hwz⟩
  · cases hcs; exact ⟨[], .inl (Has.nil 1 w)⟩
  · cases hcs
    simp only [if_true] at hz
    by_cases h0 : cap = 0
    · subst h0
      obtain rfl : len = 0 := by omega
      exact ⟨[], .inr ⟨rfl, a, rfl⟩⟩
    · have hs := hcell 0 (by omega)
      rw [show a.add 0 = a from if_pos rfl] at hs
      have hsp := spot_none hs
      obtain ⟨b, o, s⟩ := a
      cases hsp
      have hlen : (zs.take len).length = len := by rw [List.length_take]; omega
      refine ⟨zs.take len, .inl (.inl ⟨b, o, len, cap, rfl, by simp only [ints, List.length_map, hlen]; omega, hl, fun j u hj => ?_⟩)⟩
      simp only [ints, List.getElem?_map, Option.map_eq_some_iff] at hj
      obtain ⟨z, hj, rfl⟩ := hj
      obtain ⟨hjl, hj⟩ := List.getElem?_eq_some_iff.1 hj
      rw [hlen] at hjl
      have := hcell j (by omega)
      rw [add_lit] at this
      rw [this, ← hj, List.getElem_take, List.getD_eq_getElem?_getD, List.getElem?_eq_getElem (by omega)]; rfl
theorem cellsInts : Try.prog.cellsOf 45 = 1 := by kernel_rfl
end
end Go.Proofs.Ytbnecclognibaaa

/- Arguments opened: a number of sixteen bits; two of them. -/
namespace Go.Proofs.Ytbnecclognibaaa
open Go
set_option linter.unusedSimpArgs false
open Go.RowKit Go.ChangeShapes Go.WideShapes Go.Deep Go.Joins
theorem u16_nat {n : Int} (h : (Lit.int .u16 n).wf = true) : ∃ k : Nat, k < 65536 ∧ n = (k : Int) := by
  have := bounds_u16 h
  exact ⟨n.toNat, by omega, by omega⟩
section
variable {H : Type} {enc : TypeId × Value → H}
theorem cellsU16 : Try.prog.cellsOf 22 = 1 := by kernel_rfl
end
end Go.Proofs.Ytbnecclognibaaa
