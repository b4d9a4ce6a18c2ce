/- What must be whatever is asked (logs). -/
import Derived.Test.YtneehlkofcdhoaaDp
namespace Go.Proofs.Ytneehlkofcdhoaa
open Go
set_option linter.unusedSimpArgs false
open Go.RowKit (intOf)
theorem zero_image {n i : Nat} (h : i < n) : (Dsk.zero n).image[i]? = some zsec := by
  have h1 : (Dsk.zero n).image = (Dsk.zero n).first := by
    have := (Dsk.zero n).cut_zero
    rwa [show (Dsk.zero n).cut 0 = Dsk.zero n from rfl] at this
  rw [h1, show (Dsk.zero n).first = List.replicate n zsec from rfl, List.getElem?_replicate, if_pos h]
theorem zero_len (n : Nat) : (Dsk.zero n).first.length = n := List.length_replicate
def live3 : Deed3 := ⟨false, [2, 0], 5⟩
theorem live3_pgs : live3.pgs = [(2, List.replicate 512 5), (0, List.replicate 512 6)] := by
  have h : live3.pgs = [live3.page 0, live3.page 1] := rfl
  have h0 : live3.byteAt 0 = 5 := by decide
  have h1 : live3.byteAt 1 = 6 := by decide
  have e0 : live3.page 0 = (2, List.replicate 512 5) := by unfold Deed3.page; rw [if_neg (by simp [live3]), h0]; rfl
  have e1 : live3.page 1 = (0, List.replicate 512 6) := by unfold Deed3.page; rw [if_neg (by simp [live3]), h1]; rfl
  rw [h, e0, e1]
theorem live3_good : goodP live3.pgs := by
  rw [live3_pgs]
  refine ⟨by decide, fun p hp => ?_⟩
  simp only [List.mem_cons, List.not_mem_nil, or_false] at hp
  rcases hp with rfl | rfl <;> exact List.length_replicate
theorem live3_in : ¬ anyOut 4 live3.pgs := by
  rw [live3_pgs]
  rintro ⟨p, hp, ho⟩
  simp only [List.mem_cons, List.not_mem_nil, or_false] at hp
  rcases hp with rfl | rfl <;> simp [outOf] at ho
theorem live3_code : ccode 8 3 live3.pgs = 0 := by
  have h1 : live3.pgs ≠ [] := by rw [live3_pgs]; exact List.cons_ne_nil _ _
  have h2 : live3.pgs.length = 2 := by rw [live3_pgs]; rfl
  have h3 : ¬ (min 3 100 < live3.pgs.length) := by rw [h2]; decide
  simp only [ccode, if_neg h1, if_neg h3, show 8 - 3 - 1 = 4 from rfl, if_neg live3_in, if_pos live3_good]
theorem live3_done : cdone 3 (Dsk.zero 8) live3.pgs = grouped 3 (Dsk.zero 8) (sortP live3.pgs) := by
  have h1 : live3.pgs ≠ [] := by rw [live3_pgs]; exact List.cons_ne_nil _ _
  have hf : (Dsk.zero 8).first.length = 8 := zero_len 8
  simp only [cdone, hf]
  rw [if_pos ⟨h1, live3_code⟩]
theorem live3_page : (cdone 3 (Dsk.zero 8) live3.pgs).image[3 + 1 + 0]? = some (List.replicate 512 6) := by
  have h0 : ∀ p ∈ live3.pgs, 0 ≤ p.1 := anyOut_nonneg live3_in
  have hm : ((0 : Nat), List.replicate 512 (6 : UInt8)) ∈ sortP live3.pgs := (sortP_mem h0).2 (by rw [live3_pgs]; exact List.mem_cons_of_mem _ (List.mem_cons_self ..))
  rw [live3_done]
  exact grouped_page (size := 3) (nodup_lt (sortP_rising live3_good.1 h0)) (fun p hp => by have := sortP_lt (pages := 4) h0 live3_in p hp; rw [zero_len]; omega) hm
theorem live3_ops : (cdone 3 (Dsk.zero 8) live3.pgs).ops.length = 10 := by
  rw [live3_done, grouped_ops, sortP_length, live3_pgs]; rfl
set_option maxHeartbeats 1000000 in
theorem live3_spec (w : World) : Calls Try.prog 12 #[] w (Ret fun v w' => v = .bool true ∧ Grow w w') := by
  apply enter12
  apply R_in
  simp (maxSteps := 600000) (disch := omega) only [F12, ↓sy1, sy2, sy3, readOK, sy5, sy6, Nat.reduceEqDiff, ↓reduceIte, sy7, sy8, sy9, sya, oneOf, syb, syc, Nat.reduceAdd, Nat.reduceMul, syd, sye, syf, syg, syh, reduceCtorEq]
  refine call0 (new_spec G00 1 (n := 8) (by omega) (by omega)) ?_
  rintro _ w1 ⟨p, G1, rfl, hp1, hd1, hx1⟩
  simp (maxSteps := 600000) (disch := omega) only [↓sy1, sy2, sy3, readOK, sy5, sy6, Nat.reduceEqDiff, ↓reduceIte, sy7, sy8, sy9, sya, oneOf, syb, syc, Nat.reduceAdd, Nat.reduceMul, syd, sye, syf, syg, syh, reduceCtorEq]
  refine call0 (open_spec (size := 3) 2 (by omega) hd1 (by omega) (by rw [zero_len]; omega) (.inl (zero_image (by omega)))) ?_
  rintro _ w2 ⟨q, G2, rfl, hq2, hl2, hx2⟩
  simp (maxSteps := 600000) (disch := omega) only [↓sy1, sy2, sy3, readOK, sy5, sy6, Nat.reduceEqDiff, ↓reduceIte, sy7, sy8, sy9, sya, oneOf, syb, syc, Nat.reduceAdd, Nat.reduceMul, syd, sye, syf, syg, syh, reduceCtorEq, fill_gen, fillF_2 (a := .int .i64 0) (b := .int .i64 0) (u := .int .i64 2) (v := .int .i64 0) rfl rfl, fillF_2of3 (a := .bool false) (b := .slice none 0 0) (c := .int .u8 0) (x := .slice (some ⟨w2.heap.size, 0, none⟩) 2 2) (y := .int .u8 5) rfl rfl]
  have hga : Grow w2 (w2.alloc (.cells #[.int .i64 2, .int .i64 0] 3)) := (Keep.refl _ _).alloc _
  have hia : HasI (w2.alloc (.cells #[.int .i64 2, .int .i64 0] 3)) (.slice (some ⟨w2.heap.size, 0, none⟩) 2 2) [2, 0] := Has.new2
  generalize w2.alloc (.cells #[.int .i64 2, .int .i64 0] 3) = w3 at hga hia ⊢
  refine call0 (dpages_spec (x := live3) ⟨_, rfl, .inl hia⟩) ?_
  rintro pv w4 ⟨hpv, hg4⟩
  have hx4 : Ext0 G2 w2 (G2.new w2.heap.size) w4 := .newB (hga.trans hg4)
  have hl4 := hl2.ext hx4 id id
  obtain ⟨xs, hps⟩ := hpv.held (G := G2.new w2.heap.size) (κ := 2) (fun b hb => by rw [Gh.new_own (Nat.le_trans hga.size hb)]; omega)
  simp (maxSteps := 600000) (disch := omega) only [↓sy1, sy2, sy3, readOK, sy5, sy6, Nat.reduceEqDiff, ↓reduceIte, sy7, sy8, sy9, sya, oneOf, syb, syc, Nat.reduceAdd, Nat.reduceMul, syd, sye, syf, syg, syh, reduceCtorEq]
  refine call0 (commit_spec hl4 hps (by rw [live3_pgs]; decide) (by show 0 < 700000; omega)) ?_
  rintro _ w5 ⟨rfl, G5, hl5, hx5⟩
  have hf : (Dsk.zero 8).first.length = 8 := zero_len 8
  have hff : (cdone 3 (Dsk.zero 8) live3.pgs).first.length = 8 := by rw [cdone_first, hf]
  rw [hf, live3_code]
  simp (maxSteps := 600000) (disch := omega) only [↓sy1, sy2, sy3, readOK, sy5, sy6, Nat.reduceEqDiff, ↓reduceIte, sy7, sy8, sy9, sya, oneOf, syb, syc, Nat.reduceAdd, Nat.reduceMul, syd, sye, syf, syg, syh, reduceCtorEq]
  refine call0 (lread_spec (n := 0) hl5 (by omega)) ?_
  rintro _ w6 ⟨u, rfl, hu, hg6⟩
  have hpage := live3_page
  have hpg : (cdone 3 (Dsk.zero 8) live3.pgs).image[3 + 1 + 0]'(by rw [Dsk.image_length, hff]; omega) = List.replicate 512 6 := by
    rw [List.getElem?_eq_getElem (by rw [Dsk.image_length, hff]; omega)] at hpage; exact Option.some.inj hpage
  rw [hpg] at hu
  have hul : ∀ w', lenF w' 0 u = some (.int .i64 512) := fun w' => by rw [Has.lenB (Has.own hu), List.length_replicate]; rfl
  obtain ⟨a, ha, hac, _⟩ := Has.getB (Has.own hu) (i := 0) (by rw [List.length_replicate]; omega)
  have hz : (List.replicate 512 (6 : UInt8))[0]'(by rw [List.length_replicate]; omega) = 6 := List.getElem_replicate ..
  rw [hz] at hac
  have ha' : iaF 1 u (.int .i64 0) = some (.pointer (some a)) := ha
  simp (maxSteps := 600000) (disch := omega) only [↓sy1, sy2, sy3, readOK, sy5, sy6, Nat.reduceEqDiff, ↓reduceIte, sy7, sy8, sy9, sya, oneOf, syb, syc, Nat.reduceAdd, Nat.reduceMul, syd, sye, syf, syg, syh, reduceCtorEq]
  refine call0 (capacity_spec (hl5.grow hg6)) ?_
  rintro _ w7 ⟨rfl, rfl⟩
  simp (maxSteps := 600000) (disch := omega) only [↓sy1, sy2, sy3, readOK, sy5, sy6, Nat.reduceEqDiff, ↓reduceIte, sy7, sy8, sy9, sya, oneOf, syb, syc, Nat.reduceAdd, Nat.reduceMul, syd, sye, syf, syg, syh, reduceCtorEq, show (((min 3 100 : Nat) : Int) = 3) = True from by decide, decide_true]
  refine call0 (pages_spec (hl5.grow hg6)) ?_
  rintro _ w7 ⟨rfl, hg7⟩
  rw [hff]
  simp (maxSteps := 600000) (disch := omega) only [↓sy1, sy2, sy3, readOK, sy5, sy6, Nat.reduceEqDiff, ↓reduceIte, sy7, sy8, sy9, sya, oneOf, syb, syc, Nat.reduceAdd, Nat.reduceMul, syd, sye, syf, syg, syh, reduceCtorEq, show (((8 - 3 - 1 : Nat) : Int) = 4) = True from by decide, decide_true, hul, ha', hg7.gcell hac, show (((6 : UInt8).toNat : Int) = 6) = True from by decide]
  refine call0 (ldisk_spec 3 ((hl5.grow hg6).grow hg7)) ?_
  rintro _ w8 ⟨p8, G8, rfl, _, hd8, hx8⟩
  simp (maxSteps := 600000) (disch := omega) only [↓sy1, sy2, sy3, readOK, sy5, sy6, Nat.reduceEqDiff, ↓reduceIte, sy7, sy8, sy9, sya, oneOf, syb, syc, Nat.reduceAdd, Nat.reduceMul, syd, sye, syf, syg, syh, reduceCtorEq]
  refine call0 (ops_spec hd8) ?_
  rintro _ w9 ⟨rfl, rfl⟩
  rw [live3_ops]
  simp (maxSteps := 600000) (disch := omega) only [↓sy1, sy2, sy3, readOK, sy5, sy6, Nat.reduceEqDiff, ↓reduceIte, sy7, sy8, sy9, sya, oneOf, syb, syc, Nat.reduceAdd, Nat.reduceMul, syd, sye, syf, syg, syh, reduceCtorEq, show (((10 : Nat) : Int) = 10) = True from by decide, decide_true]
  have hxa : Ext (fun c => c = 2) G00 w G8 _ := (((((hx1.trans hx2).trans hx4).mono (fun _ h => h.elim)).trans hx5).trans ((Ext.grow (hg6.trans hg7)))).trans (hx8.mono (fun _ h => h.elim))
  exact R_out (hxa.toGrow (by omega))
end Go.Proofs.Ytneehlkofcdhoaa
