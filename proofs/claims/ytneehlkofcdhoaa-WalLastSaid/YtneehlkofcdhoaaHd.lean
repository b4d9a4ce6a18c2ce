/- The head is read. -/
import Derived.Test.YtneehlkofcdhoaaZe
namespace Go.Proofs.Ytneehlkofcdhoaa
open Go
set_option linter.unusedSimpArgs false
open Go.RowKit (intOf)
/-- A slice from a place on. -/
theorem Has.slcFrom {w : World} {v : Value} {xs : List Value} (h : Has 1 w v xs) {m : Nat} (hm : m ≤ xs.length) :
    ∃ v', slcF 1 v (some (.int .i64 m)) none none = some v' ∧ Has 1 w v' (xs.drop m) := by
  rcases h with ⟨b, o, n, c, rfl, h1, h2, h3⟩ | ⟨rfl, rfl⟩
  · rw [Nat.mul_one] at h1
    have hr : slcF 1 (.slice (some ⟨b, o, none⟩) n c) (some (.int .i64 m)) none none = some (.slice (if c = m then some ⟨b, o, none⟩ else some ⟨b, o + m, none⟩) (n - m) (c - m)) := by
      simp only [slcF, slcV, bndV]
      simp only [Option.isSome_none, Bool.false_eq_true, if_false]
      rw [if_pos ⟨by omega, by omega⟩]
      simp [add_lit]
    refine ⟨_, hr, ?_⟩
    by_cases hc : c = m
    · rw [if_pos hc]
      refine .inl ⟨b, o, n - m, c - m, rfl, by rw [List.length_drop]; omega, by omega, fun j u hj => ?_⟩
      rw [List.drop_eq_nil_of_le (by omega)] at hj; simp at hj
    · rw [if_neg hc]
      refine .inl ⟨b, o + m, n - m, c - m, rfl, by rw [List.length_drop]; omega, by omega, fun j u hj => ?_⟩
      rw [List.getElem?_drop] at hj
      rw [show o + m + j = o + (m + j) from by omega]
      exact h3 (m + j) u hj
  · have hm0 : m = 0 := by simpa using hm
    subst hm0
    exact ⟨.slice none 0 0, by simp [slcF, slcV, bndV], by simpa using Has.nil 1 w⟩
theorem hi_lo {n : Nat} (h : n < 65536) : (hi n).toNat * 256 + (lo n).toNat = n := by
  rw [hi, lo, UInt8.toNat_ofNat', UInt8.toNat_ofNat']; omega
theorem headB_at (ns : List Nat) {i : Nat} (h : i < ns.length) : ∃ rest, (headB ns).drop (4 + 2 * i) = hi ns[i] :: lo ns[i] :: rest := by
  have hs : headP ns ns.length = headP ns i ++ ((ns.drop i).flatMap fun n => [hi n, lo n]) := by
    rw [headP, headP, List.take_length, List.append_assoc, ← List.flatMap_append, List.take_append_drop]
  refine ⟨((ns.drop (i + 1)).flatMap fun n => [hi n, lo n]) ++ List.replicate (508 - 2 * ns.length) 0, ?_⟩
  rw [← headP_all, hs, List.append_assoc, List.drop_left' (headP_length ns (by omega)), List.drop_eq_getElem_cons h]
  rfl
theorem headB_tail (ns : List Nat) : (headB ns).drop (4 + 2 * ns.length) = List.replicate (508 - 2 * ns.length) 0 := by
  rw [← headP_all, List.drop_left' (headP_length ns (Nat.le_refl _))]
theorem headB_two (ns : List Nat) : ∃ rest, (headB ns).drop 2 = hi ns.length :: lo ns.length :: rest := ⟨_, rfl⟩
theorem bs_drop (l : List UInt8) (n : Nat) : (bs l).drop n = bs (l.drop n) := by simp [bs]
theorem head_zero {G : Gh} {κ : Nat} {w : World} {q size came : Nat} {D : Dsk} (h : LogAt G κ w q size came D) (h0 : D.image[0]? = some zsec) :
    Calls Try.prog 50 #[.pointer (some ⟨q, 0, none⟩)] w (Ret fun v w' => v = .tuple #[.slice none 0 0, .bool true] ∧ Grow w w') := by
  obtain ⟨p, hd, hc⟩ := h.cells
  have hs2 := h.2.2.1
  have himg : D.image[0]'(by rw [D.image_length]; omega) = zsec := by
    rw [List.getElem?_eq_getElem (by rw [D.image_length]; omega)] at h0; exact Option.some.inj h0
  apply enter50
  apply R_in
  simp (maxSteps := 600000) (disch := omega) only [F50, ↓sy1, sy2, sy3, readOK, sy5, sy6, Nat.reduceEqDiff, ↓reduceIte, sy7, sy8, sy9, sya, oneOf, syb, syc, Nat.reduceAdd, Nat.reduceMul, syd, sye, syf, syg, syh, reduceCtorEq, hc (Keep.refl _ _)]
  refine call0 (read_spec hd (n := 0) (by omega)) ?_
  rintro _ w1 ⟨b, rfl, hb, hg1⟩
  rw [himg] at hb
  simp (maxSteps := 600000) (disch := omega) only [↓sy1, sy2, sy3, readOK, sy5, sy6, Nat.reduceEqDiff, ↓reduceIte, sy7, sy8, sy9, sya, oneOf, syb, syc, Nat.reduceAdd, Nat.reduceMul, syd, sye, syf, syg, syh, reduceCtorEq]
  refine call0 (zeros_spec (Has.own hb) (by rw [zsec_length]; omega)) ?_
  rintro v w2 ⟨⟨_, rfl⟩ | ⟨hno, _⟩, rfl⟩
  · simp (maxSteps := 600000) (disch := omega) only [↓sy1, sy2, sy3, readOK, sy5, sy6, Nat.reduceEqDiff, ↓reduceIte, sy7, sy8, sy9, sya, oneOf, syb, syc, Nat.reduceAdd, Nat.reduceMul, syd, sye, syf, syg, syh, reduceCtorEq]
    exact R_out hg1
  · exact absurd (fun b hb => (List.mem_replicate.1 hb).2) hno
theorem head_spec {G : Gh} {κ : Nat} {w : World} {q size came : Nat} {D : Dsk} {ns : List Nat} (h : LogAt G κ w q size came D) (h0 : D.image[0]? = some (headB ns)) (hl : ns.length ≤ min size 100) (hr : ns.Pairwise (· < ·)) (hp : ∀ n ∈ ns, n < D.first.length - size - 1) :
    Calls Try.prog 50 #[.pointer (some ⟨q, 0, none⟩)] w (Ret fun v w' => ∃ u, v = .tuple #[u, .bool true] ∧ w'.ownsRow w.heap.size 3 1 u ns.length (ints (zs ns)) ∧ Grow w w') := by
  obtain ⟨p, hd, hc⟩ := h.cells
  have hs2 := h.2.2.1
  have hmost := hd.ok.most
  have himg : D.image[0]'(by rw [D.image_length]; omega) = headB ns := by
    rw [List.getElem?_eq_getElem (by rw [D.image_length]; omega)] at h0; exact Option.some.inj h0
  have hhl := headB_length (show ns.length ≤ 100 by omega)
  apply enter50
  apply R_in
  simp (maxSteps := 600000) (disch := omega) only [F50, ↓sy1, sy2, sy3, readOK, sy5, sy6, Nat.reduceEqDiff, ↓reduceIte, sy7, sy8, sy9, sya, oneOf, syb, syc, Nat.reduceAdd, Nat.reduceMul, syd, sye, syf, syg, syh, reduceCtorEq, hc (Keep.refl _ _)]
  refine call0 (read_spec hd (n := 0) (by omega)) ?_
  rintro _ w1 ⟨b, rfl, hb, hg1⟩
  rw [himg] at hb
  have hB := Has.own hb
  simp (maxSteps := 600000) (disch := omega) only [↓sy1, sy2, sy3, readOK, sy5, sy6, Nat.reduceEqDiff, ↓reduceIte, sy7, sy8, sy9, sya, oneOf, syb, syc, Nat.reduceAdd, Nat.reduceMul, syd, sye, syf, syg, syh, reduceCtorEq]
  refine call0 (zeros_spec hB (by omega)) ?_
  rintro v w2 ⟨⟨hall, _⟩ | ⟨_, rfl⟩, rfl⟩
  · exact absurd (hall 0x44 (by simp [headB])) (by decide)
  obtain ⟨v2, hv2, hH2⟩ := hB.slcFrom (m := 2) (by rw [bs_length]; omega)
  obtain ⟨r2, hr2⟩ := headB_two ns
  rw [bs_drop, hr2] at hH2
  have hv2' : slcF 1 b (some (.int .i64 2)) none none = some v2 := hv2
  simp (maxSteps := 600000) (disch := omega) only [↓sy1, sy2, sy3, readOK, sy5, sy6, Nat.reduceEqDiff, ↓reduceIte, sy7, sy8, sy9, sya, oneOf, syb, syc, Nat.reduceAdd, Nat.reduceMul, syd, sye, syf, syg, syh, reduceCtorEq, hv2']
  refine call0 (two_spec hH2 (by simp)) ?_
  rintro _ w3 ⟨rfl, hg3⟩
  have hlen2 : (hi ns.length :: lo ns.length :: r2)[0].toNat * 256 + (hi ns.length :: lo ns.length :: r2)[1].toNat = ns.length := hi_lo (by omega)
  rw [hlen2]
  have hB3 := hB.grow hg3
  obtain ⟨a0, ha0, hac0, _⟩ := hB3.getB (i := 0) (by omega)
  obtain ⟨a1, ha1, hac1, _⟩ := hB3.getB (i := 1) (by omega)
  have hb0 : ((headB ns)[0]'(by omega)).toNat = 68 := rfl
  have hb1 : ((headB ns)[1]'(by omega)).toNat = 78 := rfl
  rw [hb0] at hac0
  rw [hb1] at hac1
  have ha0' : iaF 1 b (.int .i64 0) = some (.pointer (some a0)) := ha0
  have ha1' : iaF 1 b (.int .i64 1) = some (.pointer (some a1)) := ha1
  have hac0' : w3.cell? a0 = some (.int .u8 68) := hac0
  have hac1' : w3.cell? a1 = some (.int .u8 78) := hac1
  simp (maxSteps := 600000) (disch := omega) only [↓sy1, sy2, sy3, readOK, sy5, sy6, Nat.reduceEqDiff, ↓reduceIte, sy7, sy8, sy9, sya, oneOf, syb, syc, Nat.reduceAdd, Nat.reduceMul, syd, sye, syf, syg, syh, reduceCtorEq, ha0', hac0', ha1', hac1', decide_true]
  refine call0 (capacity_spec (h.grow (hg1.trans hg3))) ?_
  rintro _ w4 ⟨rfl, rfl⟩
  obtain ⟨v5, hv5, hH5⟩ := hB3.slcFrom (m := 4 + 2 * ns.length) (by rw [bs_length]; omega)
  rw [bs_drop, headB_tail] at hH5
  have hcast5 : (4 : Int) + 2 * (ns.length : Int) = ((4 + 2 * ns.length : Nat) : Int) := by omega
  have hng : ¬ (((min size 100 : Nat) : Int) < (ns.length : Int)) := by omega
  simp (maxSteps := 600000) (disch := omega) only [↓sy1, sy2, sy3, readOK, sy5, sy6, Nat.reduceEqDiff, ↓reduceIte, sy7, sy8, sy9, sya, oneOf, syb, syc, Nat.reduceAdd, Nat.reduceMul, syd, sye, syf, syg, syh, reduceCtorEq, hng, decide_false, hcast5, hv5]
  refine call0 (zeros_spec hH5 (by simp; omega)) ?_
  rintro v w5 ⟨hv5c, rfl⟩
  obtain rfl : v = .bool true := by
    rcases hv5c with ⟨_, h⟩ | ⟨hno, _⟩
    · exact h
    · exact absurd (fun b hb => (List.mem_replicate.1 hb).2) hno
  simp (maxSteps := 600000) (disch := omega) only [↓sy1, sy2, sy3, readOK, sy5, sy6, Nat.reduceEqDiff, ↓reduceIte, sy7, sy8, sy9, sya, oneOf, syb, syc, Nat.reduceAdd, Nat.reduceMul, syd, sye, syf, syg, syh, reduceCtorEq]
  have hb5 := own_grow hb hg3
  have hg15 := hg1.trans hg3
  refine loop_rule (fun e w' => ∃ (i : Nat) (out : Value), i ≤ ns.length ∧ e 51 = .int .i64 i ∧ e 50 = .int .i64 ns.length ∧ e 4 = b ∧ e 0 = .pointer (some ⟨q, 0, none⟩) ∧ e 7 = .int .i64 (if h : 0 < i ∧ i ≤ ns.length then ((ns[i - 1]'(by omega) : Nat) : Int) else -1) ∧ e 8 = out ∧
      w'.ownsRow w.heap.size 3 1 out i (ints (zs (ns.take i))) ∧ w'.ownsRow w.heap.size 5 1 b 512 (bs (headB ns)) ∧ Grow w w') (fun e _ => ns.length - (intOf (e 51)).toNat)
    ⟨0, .slice none 0 0, by omega, by simp [upd, updO, ev], by simp [upd, updO, ev], by simp [upd, updO, ev], by simp [upd, updO, ev], by simp [upd, updO, ev], by simp [upd, updO, ev], World.ownsRow_nil w5 _ _ _, hb5, hg15⟩ ?_
  rintro e w6 ⟨i, out, hi', e51, e50, e4, e0, e7, e8, hown, hb6, hg6⟩
  have hB6 := Has.own hb6
  by_cases hlt : i < ns.length
  · obtain ⟨v7, hv7, hH7⟩ := hB6.slcFrom (m := 4 + 2 * i) (by rw [bs_length]; omega)
    obtain ⟨r7, hr7⟩ := headB_at ns hlt
    rw [bs_drop, hr7] at hH7
    have hcast7 : (4 : Int) + 2 * (i : Int) = ((4 + 2 * i : Nat) : Int) := by omega
    simp (maxSteps := 600000) (disch := omega) only [F50_L0, ↓sy1, sy2, sy3, readOK, sy5, sy6, Nat.reduceEqDiff, ↓reduceIte, sy7, sy8, sy9, sya, oneOf, syb, syc, Nat.reduceAdd, Nat.reduceMul, syd, sye, syf, syg, syh, reduceCtorEq, e51, e50, e4, e0, e7, e8, Int.ofNat_lt, hlt, decide_true, hcast7, hv7]
    refine call0 (two_spec hH7 (by simp)) ?_
    rintro _ w7 ⟨rfl, hg7⟩
    have hpi := hp ns[i] (List.getElem_mem hlt)
    have hlen7 : (hi ns[i] :: lo ns[i] :: r7)[0].toNat * 256 + (hi ns[i] :: lo ns[i] :: r7)[1].toNat = ns[i] := hi_lo (by omega)
    rw [hlen7]
    have hlast : ¬ (((ns[i] : Nat) : Int) ≤ (if h : 0 < i ∧ i ≤ ns.length then ((ns[i - 1]'(by omega) : Nat) : Int) else -1)) := by
      split
      · rename_i hh
        have := List.pairwise_iff_getElem.1 hr (i - 1) i (by omega) hlt (by omega); omega
      · omega
    simp (maxSteps := 600000) (disch := omega) only [↓sy1, sy2, sy3, readOK, sy5, sy6, Nat.reduceEqDiff, ↓reduceIte, sy7, sy8, sy9, sya, oneOf, syb, syc, Nat.reduceAdd, Nat.reduceMul, syd, sye, syf, syg, syh, reduceCtorEq, e51, e50, e4, e0, e7, e8, hlast, decide_false]
    refine call0 (pages_spec (h.grow (hg6.trans hg7))) ?_
    rintro _ w8 ⟨rfl, hg8⟩
    simp (maxSteps := 600000) (disch := omega) only [↓sy1, sy2, sy3, readOK, sy5, sy6, Nat.reduceEqDiff, ↓reduceIte, sy7, sy8, sy9, sya, oneOf, syb, syc, Nat.reduceAdd, Nat.reduceMul, syd, sye, syf, syg, syh, reduceCtorEq, e51, e50, e4, e0, e7, e8, show ¬ (((D.first.length - size - 1 : Nat) : Int) ≤ ((ns[i] : Nat) : Int)) from by omega, decide_false]
    have hown8 := own_grow hown (hg7.trans hg8)
    have hga : Grow w8 (w8.alloc (.cells #[.int .i64 ((ns[i] : Nat) : Int)] 3)) := (Keep.refl _ _).alloc _
    refine app_own elemI (by simp only [upd_at, Nat.reduceEqDiff, reduceIte, ev_tmp, ev_const, List.map_cons, List.map_nil, e8]) (by simp only [upd_at, Nat.reduceEqDiff, reduceIte, ev_tmp, ev_const, List.map_cons, List.map_nil]) (own_grow hown8 hga) Has.new1 (m := 1) rfl (by simp [isCell]) (by omega) (by omega) (by have := ((hg6.trans hg7).trans hg8).size; simp; omega) ?_
    intro out' w9 ho9 hg9
    simp (maxSteps := 600000) (disch := omega) only [↓sy1, sy2, sy3, readOK, sy5, sy6, Nat.reduceEqDiff, ↓reduceIte, sy7, sy8, sy9, sya, oneOf, syb, syc, Nat.reduceAdd, Nat.reduceMul, syd, sye, syf, syg, syh, reduceCtorEq, e51, e50, e4, e0]
    have hgw : Grow w w9 := (((hg6.trans hg7).trans hg8).trans hga).then (Keep.grown hg9) (fun bb hbb hs => by
      obtain ⟨hbl, _⟩ := World.ownsRow.lt hown8 bb hs.symm; omega)
    have hb8 := own_grow hb6 (hg7.trans hg8)
    have hk9 := (Keep.refl (fun bb => some bb = out.ownBlock) w8).trans (((Keep.refl _ _).alloc (.cells #[.int .i64 ((ns[i] : Nat) : Int)] 3)).trans (Keep.grown hg9))
    have hb9 := own_keep hb8 hk9 (fun bb hbb hs => own_ne hown8 hb8 (by decide) hs.symm hbb)
    refine R_out ⟨⟨i + 1, out', by omega, rfl, ?_, rfl, ?_, hb9, hgw⟩, ?_⟩
    · rw [dif_pos ⟨by omega, by omega⟩]; simp
    · have hts : ints (zs (ns.take (i + 1))) = ints (zs (ns.take i)) ++ [.int .i64 ((ns[i] : Nat) : Int)] := by
        rw [List.take_succ_eq_append_getElem hlt, zs, List.map_append, ints, List.map_append]; rfl
      rw [hts]; exact ho9
    · simp only [intOf]; omega
  · have hie : i = ns.length := by omega
    subst hie
    simp (maxSteps := 600000) (disch := omega) only [F50_L0, ↓sy1, sy2, sy3, readOK, sy5, sy6, Nat.reduceEqDiff, ↓reduceIte, sy7, sy8, sy9, sya, oneOf, syb, syc, Nat.reduceAdd, Nat.reduceMul, syd, sye, syf, syg, syh, reduceCtorEq, e51, e50, e4, e0, e7, e8, Int.ofNat_lt, hlt, decide_false]
    rw [List.take_length] at hown
    exact R_out ⟨out, rfl, hown, hg6⟩
end Go.Proofs.Ytneehlkofcdhoaa
