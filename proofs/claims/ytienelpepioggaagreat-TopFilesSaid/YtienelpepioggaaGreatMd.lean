/- Texts of one claim, put together in their order: what each proves stands ahead of it. -/
import Derived.Test.YtienelpepioggaaGreatMc
import Derived.Laws.CopyRow
/- Are all bytes 0? A number in two bytes. -/
namespace Go.Proofs.YtienelpepioggaaGreat
open Go
set_option linter.unusedSimpArgs false
open Go.RowKit (intOf)
theorem zero1_spec {w : World} {b : UInt8} :
    Calls Tryz.prog 78 #[.int .u8 (b.toNat : Int)] w (Ret fun v w' => v = .bool (!decide (b = 0)) ∧ w' = w) := by
  apply enter78
  apply R_in
  by_cases h : b = 0
  · subst h
    simp (maxSteps := 600000) (disch := omega) only [F78, ↓sy1, sy2, sy3, readOK, sy5, sy6, Nat.reduceEqDiff, ↓reduceIte, sy7, sy8, sy9, sya, oneOf, syb, syc, Nat.reduceAdd, Nat.reduceMul, syd, sye, syf, syg, syh, reduceCtorEq, show (((0 : UInt8).toNat : Int) = 0) = True from by simp, decide_true]
    exact R_out (by simp)
  · have h' : ¬ ((b.toNat : Int) = 0) := fun hc => h (UInt8.toNat_inj.1 (by simpa using hc))
    simp (maxSteps := 600000) (disch := omega) only [F78, ↓sy1, sy2, sy3, readOK, sy5, sy6, Nat.reduceEqDiff, ↓reduceIte, sy7, sy8, sy9, sya, oneOf, syb, syc, Nat.reduceAdd, Nat.reduceMul, syd, sye, syf, syg, syh, reduceCtorEq, h', decide_false]
    exact R_out (by simp [h])
theorem zindex_spec {w : World} {u : Value} {l : List UInt8} (h : HasB w u l) (hl : l.length ≤ 1048576) :
    Calls Tryz.prog 89 #[u, .func (.func 78) #[] #[]] w (Ret fun v w' => ((∀ b ∈ l, b = 0) ∧ v = .int .i64 (-1) ∨ (¬ ∀ b ∈ l, b = 0) ∧ ∃ i : Nat, v = .int .i64 i) ∧ w' = w) := by
  have hcl : callable Tryz.prog 78 = true := by kernel_rfl
  apply enter89
  apply R_in
  simp (maxSteps := 600000) (disch := omega) only [F89, ↓sy1, sy2, sy3, readOK, sy5, sy6, Nat.reduceEqDiff, ↓reduceIte, sy7, sy8, sy9, sya, oneOf, syb, syc, Nat.reduceAdd, Nat.reduceMul, syd, sye, syf, syg, syh, reduceCtorEq, h.lenB]
  refine loop_rule (fun e w' => ∃ i : Nat, i ≤ l.length ∧ e 8 = .int .i64 i ∧ e 7 = .int .i64 l.length ∧ e 0 = u ∧ e 1 = .func (.func 78) #[] #[] ∧ (∀ j (hj : j < l.length), j < i → l[j] = 0) ∧ w' = w) (fun e _ => l.length - (intOf (e 8)).toNat)
    ⟨0, by omega, by simp [upd, updO, ev], by simp [upd, updO, ev], by simp [upd, updO, ev], by simp [upd, updO, ev], fun j _ hj => by omega, rfl⟩ ?_
  rintro e w' ⟨i, hi, e8, e7, e0, e1, hgood, rfl⟩
  by_cases hlt : i < l.length
  · obtain ⟨p, hp, hpc, _⟩ := h.getB hlt
    simp (maxSteps := 600000) (disch := omega) only [F89_L0, ↓sy1, sy2, sy3, readOK, sy5, sy6, Nat.reduceEqDiff, ↓reduceIte, sy7, sy8, sy9, sya, oneOf, syb, syc, Nat.reduceAdd, Nat.reduceMul, syd, sye, syf, syg, syh, reduceCtorEq, e8, e7, e0, e1, Int.ofNat_lt, hlt, decide_true, hp, hpc]
    refine fval_rule hcl (by simp only [upd_at, Nat.reduceEqDiff, reduceIte, ev_tmp, ev_const, List.map_cons, List.map_nil, e1]) (vs := [.int .u8 (l[i].toNat : Int)]) (by simp only [upd_at, Nat.reduceEqDiff, reduceIte, ev_tmp, ev_const, List.map_cons, List.map_nil]) zero1_spec ?_
    rintro _ w2 ⟨rfl, rfl⟩
    by_cases h5 : l[i] = 0
    · simp (maxSteps := 600000) (disch := omega) only [↓sy1, sy2, sy3, readOK, sy5, sy6, Nat.reduceEqDiff, ↓reduceIte, sy7, sy8, sy9, sya, oneOf, syb, syc, Nat.reduceAdd, Nat.reduceMul, syd, sye, syf, syg, syh, reduceCtorEq, e8, e7, e0, e1, h5, decide_true]
      refine R_out ⟨⟨i + 1, by omega, rfl, fun j hj hji => ?_⟩, ?_⟩
      · by_cases hj' : j = i
        · subst hj'; exact h5
        · exact hgood j hj (by omega)
      · simp only [intOf]; omega
    · simp (maxSteps := 600000) (disch := omega) only [↓sy1, sy2, sy3, readOK, sy5, sy6, Nat.reduceEqDiff, ↓reduceIte, sy7, sy8, sy9, sya, oneOf, syb, syc, Nat.reduceAdd, Nat.reduceMul, syd, sye, syf, syg, syh, reduceCtorEq, e8, e7, e0, e1, h5, decide_false]
      exact R_out (.inr ⟨fun hall => h5 (hall _ (List.getElem_mem hlt)), i, rfl⟩)
  · simp (maxSteps := 600000) (disch := omega) only [F89_L0, ↓sy1, sy2, sy3, readOK, sy5, sy6, Nat.reduceEqDiff, ↓reduceIte, sy7, sy8, sy9, sya, oneOf, syb, syc, Nat.reduceAdd, Nat.reduceMul, syd, sye, syf, syg, syh, reduceCtorEq, e8, e7, e0, e1, Int.ofNat_lt, hlt, decide_false]
    refine R_out (.inl fun b hb => ?_)
    obtain ⟨j, hj, rfl⟩ := List.getElem_of_mem hb
    exact hgood j hj (by omega)
theorem zeros_spec {w : World} {u : Value} {l : List UInt8} (h : HasB w u l) (hl : l.length ≤ 1048576) :
    Calls Tryz.prog 46 #[u] w (Ret fun v w' => ((∀ b ∈ l, b = 0) ∧ v = .bool true ∨ (¬ ∀ b ∈ l, b = 0) ∧ v = .bool false) ∧ w' = w) := by
  apply enter46
  apply R_in
  simp (maxSteps := 600000) (disch := omega) only [F46, ↓sy1, sy2, sy3, readOK, sy5, sy6, Nat.reduceEqDiff, ↓reduceIte, sy7, sy8, sy9, sya, oneOf, syb, syc, Nat.reduceAdd, Nat.reduceMul, syd, sye, syf, syg, syh, reduceCtorEq]
  have hc : Calls Tryz.prog 77 #[u, .func (.func 78) #[] #[]] w (Ret fun v w' => ((∀ b ∈ l, b = 0) ∧ v = .bool false ∨ (¬ ∀ b ∈ l, b = 0) ∧ v = .bool true) ∧ w' = w) := by
    apply enter77
    apply R_in
    simp (maxSteps := 600000) (disch := omega) only [F77, ↓sy1, sy2, sy3, readOK, sy5, sy6, Nat.reduceEqDiff, ↓reduceIte, sy7, sy8, sy9, sya, oneOf, syb, syc, Nat.reduceAdd, Nat.reduceMul, syd, sye, syf, syg, syh, reduceCtorEq]
    refine call0 (zindex_spec h hl) ?_
    rintro v w1 ⟨⟨hall, rfl⟩ | ⟨hno, i, rfl⟩, rfl⟩
    · simp (maxSteps := 600000) (disch := omega) only [↓sy1, sy2, sy3, readOK, sy5, sy6, Nat.reduceEqDiff, ↓reduceIte, sy7, sy8, sy9, sya, oneOf, syb, syc, Nat.reduceAdd, Nat.reduceMul, syd, sye, syf, syg, syh, reduceCtorEq, show ¬ ((0 : Int) ≤ -1) from by omega, decide_false]
      exact R_out (.inl hall)
    · simp (maxSteps := 600000) (disch := omega) only [↓sy1, sy2, sy3, readOK, sy5, sy6, Nat.reduceEqDiff, ↓reduceIte, sy7, sy8, sy9, sya, oneOf, syb, syc, Nat.reduceAdd, Nat.reduceMul, syd, sye, syf, syg, syh, reduceCtorEq, show ((0 : Int) ≤ (i : Int)) from by omega, decide_true]
      exact R_out (.inr hno)
  refine call0 hc ?_
  rintro v w1 ⟨⟨hall, rfl⟩ | ⟨hno, rfl⟩, rfl⟩
  · simp (maxSteps := 600000) (disch := omega) only [↓sy1, sy2, sy3, readOK, sy5, sy6, Nat.reduceEqDiff, ↓reduceIte, sy7, sy8, sy9, sya, oneOf, syb, syc, Nat.reduceAdd, Nat.reduceMul, syd, sye, syf, syg, syh, reduceCtorEq]
    exact R_out (.inl hall)
  · simp (maxSteps := 600000) (disch := omega) only [↓sy1, sy2, sy3, readOK, sy5, sy6, Nat.reduceEqDiff, ↓reduceIte, sy7, sy8, sy9, sya, oneOf, syb, syc, Nat.reduceAdd, Nat.reduceMul, syd, sye, syf, syg, syh, reduceCtorEq]
    exact R_out (.inr hno)
theorem bin_shl8 {n : Nat} (h : n < 256) : binV .shl (.int .i64 (n : Int)) (.int .u64 8) = some (.int .i64 ((n * 256 : Nat) : Int)) := by
  simp only [binV]
  rw [if_neg (by omega)]
  have h8 : (2 : Int) ^ (min (Int.toNat 8) IntKind.i64.bits) = 256 := by decide
  rw [h8, wrap_i64 (by omega)]
  congr 2
theorem bin_or8 {a b : Nat} (ha : a < 256) (hb : b < 256) : binV .or (.int .i64 ((a * 256 : Nat) : Int)) (.int .i64 (b : Int)) = some (.int .i64 ((a * 256 + b : Nat) : Int)) := by
  simp only [binV, if_true]
  have h1 : (BitVec.ofInt IntKind.i64.bits ((a * 256 : Nat) : Int) ||| BitVec.ofInt IntKind.i64.bits (b : Int)).toNat = a * 256 + b := by
    rw [BitVec.toNat_or, BitVec.ofInt_natCast, BitVec.ofInt_natCast, BitVec.toNat_ofNat, BitVec.toNat_ofNat]
    have hbits : (2 : Nat) ^ IntKind.i64.bits = 18446744073709551616 := by decide
    rw [hbits, Nat.mod_eq_of_lt (by omega), Nat.mod_eq_of_lt (by omega)]
    have := Nat.shiftLeft_add_eq_or_of_lt (i := 8) (show b < 2 ^ 8 by omega) a
    rw [Nat.shiftLeft_eq] at this
    exact this.symm
  rw [h1, wrap_i64 (by omega)]
theorem two_spec {w : World} {u : Value} {l : List UInt8} (h : HasB w u l) (hl : 2 ≤ l.length) :
    Calls Tryz.prog 47 #[u] w (Ret fun v w' => v = .int .i64 ((l[0].toNat * 256 + l[1].toNat : Nat) : Int) ∧ Grow w w') := by
  apply enter47
  apply R_in
  simp (maxSteps := 600000) (disch := omega) only [F47, ↓sy1, sy2, sy3, readOK, sy5, sy6, Nat.reduceEqDiff, ↓reduceIte, sy7, sy8, sy9, sya, oneOf, syb, syc, Nat.reduceAdd, Nat.reduceMul, syd, sye, syf, syg, syh, reduceCtorEq]
  refine draw47_0 (fun _ => False) ?_
  have hgd : Grow w w.drew := (Keep.refl _ _).drew
  have h1 := h.grow hgd
  generalize w.drew = w1 at hgd h1 ⊢
  obtain ⟨a, ha, hac, _⟩ := h1.getB (i := 0) (by omega)
  obtain ⟨b, hb, hbc, _⟩ := h1.getB (i := 1) (by omega)
  have ha' : iaF 1 u (.int .i64 0) = some (.pointer (some a)) := ha
  have hb' : iaF 1 u (.int .i64 1) = some (.pointer (some b)) := hb
  have hl0 := l[0].toNat_lt
  have hl1 := l[1].toNat_lt
  generalize l[0].toNat = x at hac hl0 ⊢
  generalize l[1].toNat = y at hbc hl1 ⊢
  simp (maxSteps := 600000) (disch := omega) only [PL47_0, ↓sy1, sy2, sy3, readOK, sy5, sy6, Nat.reduceEqDiff, ↓reduceIte, sy7, sy8, sy9, sya, oneOf, syb, syc, Nat.reduceAdd, Nat.reduceMul, syd, sye, syf, syg, syh, reduceCtorEq, ha', hac, hb', hbc, bin_shl8, bin_or8]
  exact R_out hgd
end Go.Proofs.YtienelpepioggaaGreat

/- The head is read. -/
namespace Go.Proofs.YtienelpepioggaaGreat
open Go
set_option linter.unusedSimpArgs false
open Go.RowKit (intOf)
/-- A slice from a place on. -/
theorem Has.slcFrom {w : World} {v : Value} {xs : List Value} (h : Has 1 w v xs) {m : Nat} (hm : m ≤ xs.length) :
    ∃ v', slcF 1 v (some (.int .i64 m)) none none = some v' ∧ Has 1 w v' (xs.drop m) := by
  rcases h with ⟨b, o, n, c, rfl, h1, h2, h3⟩ | ⟨rfl, rfl⟩
  · rw [Nat.mul_one] at h1
    have hr : slcF 1 (.slice (some ⟨b, o, none⟩) n c) (some (.int .i64 m)) none none = some (.slice (if c = m then some ⟨b, o, none⟩ else some ⟨b, o + m, none⟩) (n - m) (c - m)) := by
      simp only [slcF, slcV, bndV]
      simp only [Option.isSome_none, Bool.false_eq_true, if_false]
      rw [if_pos ⟨by omega, by omega⟩]
      simp [add_lit]
    refine ⟨_, hr, ?_⟩
    by_cases hc : c = m
    · rw [if_pos hc]
      refine .inl ⟨b, o, n - m, c - m, rfl, by rw [List.length_drop]; omega, by omega, fun j u hj => ?_⟩
      rw [List.drop_eq_nil_of_le (by omega)] at hj; simp at hj
    · rw [if_neg hc]
      refine .inl ⟨b, o + m, n - m, c - m, rfl, by rw [List.length_drop]; omega, by omega, fun j u hj => ?_⟩
      rw [List.getElem?_drop] at hj
      rw [show o + m + j = o + (m + j) from by omega]
      exact h3 (m + j) u hj
  · have hm0 : m = 0 := by simpa using hm
    subst hm0
    exact ⟨.slice none 0 0, by simp [slcF, slcV, bndV], by simpa using Has.nil 1 w⟩
theorem hi_lo {n : Nat} (h : n < 65536) : (hi n).toNat * 256 + (lo n).toNat = n := by
  rw [hi, lo, UInt8.toNat_ofNat', UInt8.toNat_ofNat']; omega
theorem headB_at (ns : List Nat) {i : Nat} (h : i < ns.length) : ∃ rest, (headB ns).drop (4 + 2 * i) = hi ns[i] :: lo ns[i] :: rest := by
  have hs : headP ns ns.length = headP ns i ++ ((ns.drop i).flatMap fun n => [hi n, lo n]) := by
    rw [headP, headP, List.take_length, List.append_assoc, ← List.flatMap_append, List.take_append_drop]
  refine ⟨((ns.drop (i + 1)).flatMap fun n => [hi n, lo n]) ++ List.replicate (508 - 2 * ns.length) 0, ?_⟩
  rw [← headP_all, hs, List.append_assoc, List.drop_left' (headP_length ns (by omega)), List.drop_eq_getElem_cons h]
  rfl
theorem headB_tail (ns : List Nat) : (headB ns).drop (4 + 2 * ns.length) = List.replicate (508 - 2 * ns.length) 0 := by
  rw [← headP_all, List.drop_left' (headP_length ns (Nat.le_refl _))]
theorem headB_two (ns : List Nat) : ∃ rest, (headB ns).drop 2 = hi ns.length :: lo ns.length :: rest := ⟨_, rfl⟩
theorem bs_drop (l : List UInt8) (n : Nat) : (bs l).drop n = bs (l.drop n) := by simp [bs]
theorem head_zero {G : Gh} {κ : Nat} {w : World} {q size came : Nat} {D : Dsk} (h : LogAt G κ w q size came D) (h0 : D.image[0]? = some zsec) :
    Calls Tryz.prog 18 #[.pointer (some ⟨q, 0, none⟩)] w (Ret fun v w' => v = .tuple #[.slice none 0 0, .bool true] ∧ Grow w w') := by
  obtain ⟨p, hd, hc⟩ := h.cells
  have hs2 := h.2.2.1
  have himg : D.image[0]'(by rw [D.image_length]; omega) = zsec := by
    rw [List.getElem?_eq_getElem (by rw [D.image_length]; omega)] at h0; exact Option.some.inj h0
  apply enter18
  apply R_in
  simp (maxSteps := 600000) (disch := omega) only [F18, ↓sy1, sy2, sy3, readOK, sy5, sy6, Nat.reduceEqDiff, ↓reduceIte, sy7, sy8, sy9, sya, oneOf, syb, syc, Nat.reduceAdd, Nat.reduceMul, syd, sye, syf, syg, syh, reduceCtorEq, hc (Keep.refl _ _)]
  refine call0 (read_spec hd (n := 0) (by omega)) ?_
  rintro _ w1 ⟨b, rfl, hb, hg1⟩
  rw [himg] at hb
  simp (maxSteps := 600000) (disch := omega) only [↓sy1, sy2, sy3, readOK, sy5, sy6, Nat.reduceEqDiff, ↓reduceIte, sy7, sy8, sy9, sya, oneOf, syb, syc, Nat.reduceAdd, Nat.reduceMul, syd, sye, syf, syg, syh, reduceCtorEq]
  refine call0 (zeros_spec (Has.own hb) (by rw [zsec_length]; omega)) ?_
  rintro v w2 ⟨⟨_, rfl⟩ | ⟨hno, _⟩, rfl⟩
  · simp (maxSteps := 600000) (disch := omega) only [↓sy1, sy2, sy3, readOK, sy5, sy6, Nat.reduceEqDiff, ↓reduceIte, sy7, sy8, sy9, sya, oneOf, syb, syc, Nat.reduceAdd, Nat.reduceMul, syd, sye, syf, syg, syh, reduceCtorEq]
    exact R_out hg1
  · exact absurd (fun b hb => (List.mem_replicate.1 hb).2) hno
theorem head_spec {G : Gh} {κ : Nat} {w : World} {q size came : Nat} {D : Dsk} {ns : List Nat} (h : LogAt G κ w q size came D) (h0 : D.image[0]? = some (headB ns)) (hl : ns.length ≤ min size 100) (hr : ns.Pairwise (· < ·)) (hp : ∀ n ∈ ns, n < D.first.length - size - 1) :
    Calls Tryz.prog 18 #[.pointer (some ⟨q, 0, none⟩)] w (Ret fun v w' => ∃ u, v = .tuple #[u, .bool true] ∧ w'.ownsRow w.heap.size 3 1 u ns.length (ints (zs ns)) ∧ Grow w w') := by
  obtain ⟨p, hd, hc⟩ := h.cells
  have hs2 := h.2.2.1
  have hmost := hd.ok.most
  have himg : D.image[0]'(by rw [D.image_length]; omega) = headB ns := by
    rw [List.getElem?_eq_getElem (by rw [D.image_length]; omega)] at h0; exact Option.some.inj h0
  have hhl := headB_length (show ns.length ≤ 100 by omega)
  apply enter18
  apply R_in
  simp (maxSteps := 600000) (disch := omega) only [F18, ↓sy1, sy2, sy3, readOK, sy5, sy6, Nat.reduceEqDiff, ↓reduceIte, sy7, sy8, sy9, sya, oneOf, syb, syc, Nat.reduceAdd, Nat.reduceMul, syd, sye, syf, syg, syh, reduceCtorEq, hc (Keep.refl _ _)]
  refine call0 (read_spec hd (n := 0) (by omega)) ?_
  rintro _ w1 ⟨b, rfl, hb, hg1⟩
  rw [himg] at hb
  have hB := Has.own hb
  simp (maxSteps := 600000) (disch := omega) only [↓sy1, sy2, sy3, readOK, sy5, sy6, Nat.reduceEqDiff, ↓reduceIte, sy7, sy8, sy9, sya, oneOf, syb, syc, Nat.reduceAdd, Nat.reduceMul, syd, sye, syf, syg, syh, reduceCtorEq]
  refine call0 (zeros_spec hB (by omega)) ?_
  rintro v w2 ⟨⟨hall, _⟩ | ⟨_, rfl⟩, rfl⟩
  · exact absurd (hall 0x44 (by simp [headB])) (by decide)
  obtain ⟨v2, hv2, hH2⟩ := hB.slcFrom (m := 2) (by rw [bs_length]; omega)
  obtain ⟨r2, hr2⟩ := headB_two ns
  rw [bs_drop, hr2] at hH2
  have hv2' : slcF 1 b (some (.int .i64 2)) none none = some v2 := hv2
  simp (maxSteps := 600000) (disch := omega) only [↓sy1, sy2, sy3, readOK, sy5, sy6, Nat.reduceEqDiff, ↓reduceIte, sy7, sy8, sy9, sya, oneOf, syb, syc, Nat.reduceAdd, Nat.reduceMul, syd, sye, syf, syg, syh, reduceCtorEq, hv2']
  refine call0 (two_spec hH2 (by simp)) ?_
  rintro _ w3 ⟨rfl, hg3⟩
  have hlen2 : (hi ns.length :: lo ns.length :: r2)[0].toNat * 256 + (hi ns.length :: lo ns.length :: r2)[1].toNat = ns.length := hi_lo (by omega)
  rw [hlen2]
  have hB3 := hB.grow hg3
  obtain ⟨a0, ha0, hac0, _⟩ := hB3.getB (i := 0) (by omega)
  obtain ⟨a1, ha1, hac1, _⟩ := hB3.getB (i := 1) (by omega)
  have hb0 : ((headB ns)[0]'(by omega)).toNat = 68 := rfl
  have hb1 : ((headB ns)[1]'(by omega)).toNat = 78 := rfl
  rw [hb0] at hac0
  rw [hb1] at hac1
  have ha0' : iaF 1 b (.int .i64 0) = some (.pointer (some a0)) := ha0
  have ha1' : iaF 1 b (.int .i64 1) = some (.pointer (some a1)) := ha1
  have hac0' : w3.cell? a0 = some (.int .u8 68) := hac0
  have hac1' : w3.cell? a1 = some (.int .u8 78) := hac1
  simp (maxSteps := 600000) (disch := omega) only [↓sy1, sy2, sy3, readOK, sy5, sy6, Nat.reduceEqDiff, ↓reduceIte, sy7, sy8, sy9, sya, oneOf, syb, syc, Nat.reduceAdd, Nat.reduceMul, syd, sye, syf, syg, syh, reduceCtorEq, ha0', hac0', ha1', hac1', decide_true]
  refine call0 (capacity_spec (h.grow (hg1.trans hg3))) ?_
  rintro _ w4 ⟨rfl, rfl⟩
  obtain ⟨v5, hv5, hH5⟩ := hB3.slcFrom (m := 4 + 2 * ns.length) (by rw [bs_length]; omega)
  rw [bs_drop, headB_tail] at hH5
  have hcast5 : (4 : Int) + 2 * (ns.length : Int) = ((4 + 2 * ns.length : Nat) : Int) := by omega
  have hng : ¬ (((min size 100 : Nat) : Int) < (ns.length : Int)) := by omega
  simp (maxSteps := 600000) (disch := omega) only [↓sy1, sy2, sy3, readOK, sy5, sy6, Nat.reduceEqDiff, ↓reduceIte, sy7, sy8, sy9, sya, oneOf, syb, syc, Nat.reduceAdd, Nat.reduceMul, syd, sye, syf, syg, syh, reduceCtorEq, hng, decide_false, hcast5, hv5]
  refine call0 (zeros_spec hH5 (by simp; omega)) ?_
  rintro v w5 ⟨hv5c, rfl⟩
  obtain rfl : v = .bool true := by
    rcases hv5c with ⟨_, h⟩ | ⟨hno, _⟩
    · exact h
    · exact absurd (fun b hb => (List.mem_replicate.1 hb).2) hno
  simp (maxSteps := 600000) (disch := omega) only [↓sy1, sy2, sy3, readOK, sy5, sy6, Nat.reduceEqDiff, ↓reduceIte, sy7, sy8, sy9, sya, oneOf, syb, syc, Nat.reduceAdd, Nat.reduceMul, syd, sye, syf, syg, syh, reduceCtorEq]
  have hb5 := own_grow hb hg3
  have hg15 := hg1.trans hg3
  refine loop_rule (fun e w' => ∃ (i : Nat) (out : Value), i ≤ ns.length ∧ e 51 = .int .i64 i ∧ e 50 = .int .i64 ns.length ∧ e 4 = b ∧ e 0 = .pointer (some ⟨q, 0, none⟩) ∧ e 7 = .int .i64 (if h : 0 < i ∧ i ≤ ns.length then ((ns[i - 1]'(by omega) : Nat) : Int) else -1) ∧ e 8 = out ∧
      w'.ownsRow w.heap.size 3 1 out i (ints (zs (ns.take i))) ∧ w'.ownsRow w.heap.size 5 1 b 512 (bs (headB ns)) ∧ Grow w w') (fun e _ => ns.length - (intOf (e 51)).toNat)
    ⟨0, .slice none 0 0, by omega, by simp [upd, updO, ev], by simp [upd, updO, ev], by simp [upd, updO, ev], by simp [upd, updO, ev], by simp [upd, updO, ev], by simp [upd, updO, ev], World.ownsRow_nil w5 _ _ _, hb5, hg15⟩ ?_
  rintro e w6 ⟨i, out, hi', e51, e50, e4, e0, e7, e8, hown, hb6, hg6⟩
  have hB6 := Has.own hb6
  by_cases hlt : i < ns.length
  · obtain ⟨v7, hv7, hH7⟩ := hB6.slcFrom (m := 4 + 2 * i) (by rw [bs_length]; omega)
    obtain ⟨r7, hr7⟩ := headB_at ns hlt
    rw [bs_drop, hr7] at hH7
    have hcast7 : (4 : Int) + 2 * (i : Int) = ((4 + 2 * i : Nat) : Int) := by omega
    simp (maxSteps := 600000) (disch := omega) only [F18_L0, ↓sy1, sy2, sy3, readOK, sy5, sy6, Nat.reduceEqDiff, ↓reduceIte, sy7, sy8, sy9, sya, oneOf, syb, syc, Nat.reduceAdd, Nat.reduceMul, syd, sye, syf, syg, syh, reduceCtorEq, e51, e50, e4, e0, e7, e8, Int.ofNat_lt, hlt, decide_true, hcast7, hv7]
    refine call0 (two_spec hH7 (by simp)) ?_
    rintro _ w7 ⟨rfl, hg7⟩
    have hpi := hp ns[i] (List.getElem_mem hlt)
    have hlen7 : (hi ns[i] :: lo ns[i] :: r7)[0].toNat * 256 + (hi ns[i] :: lo ns[i] :: r7)[1].toNat = ns[i] := hi_lo (by omega)
    rw [hlen7]
    have hlast : ¬ (((ns[i] : Nat) : Int) ≤ (if h : 0 < i ∧ i ≤ ns.length then ((ns[i - 1]'(by omega) : Nat) : Int) else -1)) := by
      split
      · rename_i hh
        have := List.pairwise_iff_getElem.1 hr (i - 1) i (by omega) hlt (by omega); omega
      · omega
    simp (maxSteps := 600000) (disch := omega) only [↓sy1, sy2, sy3, readOK, sy5, sy6, Nat.reduceEqDiff, ↓reduceIte, sy7, sy8, sy9, sya, oneOf, syb, syc, Nat.reduceAdd, Nat.reduceMul, syd, sye, syf, syg, syh, reduceCtorEq, e51, e50, e4, e0, e7, e8, hlast, decide_false]
    refine call0 (pages_spec (h.grow (hg6.trans hg7))) ?_
    rintro _ w8 ⟨rfl, hg8⟩
    simp (maxSteps := 600000) (disch := omega) only [↓sy1, sy2, sy3, readOK, sy5, sy6, Nat.reduceEqDiff, ↓reduceIte, sy7, sy8, sy9, sya, oneOf, syb, syc, Nat.reduceAdd, Nat.reduceMul, syd, sye, syf, syg, syh, reduceCtorEq, e51, e50, e4, e0, e7, e8, show ¬ (((D.first.length - size - 1 : Nat) : Int) ≤ ((ns[i] : Nat) : Int)) from by omega, decide_false]
    have hown8 := own_grow hown (hg7.trans hg8)
    have hga : Grow w8 (w8.alloc (.cells #[.int .i64 ((ns[i] : Nat) : Int)] 3)) := (Keep.refl _ _).alloc _
    refine app_own elemI (by simp only [upd_at, Nat.reduceEqDiff, reduceIte, ev_tmp, ev_const, List.map_cons, List.map_nil, e8]) (by simp only [upd_at, Nat.reduceEqDiff, reduceIte, ev_tmp, ev_const, List.map_cons, List.map_nil]) (own_grow hown8 hga) Has.new1 (m := 1) rfl (by simp [isCell]) (by omega) (by omega) (by have := ((hg6.trans hg7).trans hg8).size; simp; omega) ?_
    intro out' w9 ho9 hg9
    simp (maxSteps := 600000) (disch := omega) only [↓sy1, sy2, sy3, readOK, sy5, sy6, Nat.reduceEqDiff, ↓reduceIte, sy7, sy8, sy9, sya, oneOf, syb, syc, Nat.reduceAdd, Nat.reduceMul, syd, sye, syf, syg, syh, reduceCtorEq, e51, e50, e4, e0]
    have hgw : Grow w w9 := (((hg6.trans hg7).trans hg8).trans hga).then (Keep.grown hg9) (fun bb hbb hs => by
      obtain ⟨hbl, _⟩ := World.ownsRow.lt hown8 bb hs.symm; omega)
    have hb8 := own_grow hb6 (hg7.trans hg8)
    have hk9 := (Keep.refl (fun bb => some bb = out.ownBlock) w8).trans (((Keep.refl _ _).alloc (.cells #[.int .i64 ((ns[i] : Nat) : Int)] 3)).trans (Keep.grown hg9))
    have hb9 := own_keep hb8 hk9 (fun bb hbb hs => own_ne hown8 hb8 (by decide) hs.symm hbb)
    refine R_out ⟨⟨i + 1, out', by omega, rfl, ?_, rfl, ?_, hb9, hgw⟩, ?_⟩
    · rw [dif_pos ⟨by omega, by omega⟩]; simp
    · have hts : ints (zs (ns.take (i + 1))) = ints (zs (ns.take i)) ++ [.int .i64 ((ns[i] : Nat) : Int)] := by
        rw [List.take_succ_eq_append_getElem hlt, zs, List.map_append, ints, List.map_append]; rfl
      rw [hts]; exact ho9
    · simp only [intOf]; omega
  · have hie : i = ns.length := by omega
    subst hie
    simp (maxSteps := 600000) (disch := omega) only [F18_L0, ↓sy1, sy2, sy3, readOK, sy5, sy6, Nat.reduceEqDiff, ↓reduceIte, sy7, sy8, sy9, sya, oneOf, syb, syc, Nat.reduceAdd, Nat.reduceMul, syd, sye, syf, syg, syh, reduceCtorEq, e51, e50, e4, e0, e7, e8, Int.ofNat_lt, hlt, decide_false]
    rw [List.take_length] at hown
    exact R_out ⟨out, rfl, hown, hg6⟩
end Go.Proofs.YtienelpepioggaaGreat

/- A log is opened over a disk whose head is none. -/
namespace Go.Proofs.YtienelpepioggaaGreat
open Go
set_option linter.unusedSimpArgs false
open Go.RowKit (intOf)
theorem fillF_log {a b c x y : Value} (hx : isCell x = true) (hy : isCell y = true) : fillF #[a, b, c] [(0, 1, .agg #[x]), (1, 1, y)] = some #[x, y, c] := by
  rw [fillF]
  have : (Value.agg #[x]).cells = #[x] := by simp [Value.cells, isCell_cells hx]
  rw [this]
  simp [fillF, isCell_cells hy]
theorem open_spec {G : Gh} {κ : Nat} {w : World} {p size : Nat} {D : Dsk} (κ' : Nat) (hκ : κ' ≠ 0) (h : DiskAt G κ w p D) (h1 : 1 ≤ size) (h2 : size + 2 ≤ D.first.length) (hh : D.image[0]? = some zsec ∨ D.image[0]? = some (headB [])) :
    Calls Tryz.prog 5 #[.pointer (some ⟨p, 0, none⟩), .int .i64 size] w (Ret fun v w' => ∃ q G', v = .tuple #[.pointer (some ⟨q, 0, none⟩), .int .i64 0] ∧ w.heap.size ≤ q ∧ LogAt G' κ' w' q size 0 D ∧ Ext0 G w G' w') := by
  have hmost := h.ok.most
  apply enter5
  apply R_in
  simp (maxSteps := 600000) (disch := omega) only [F5, ↓sy1, sy2, sy3, readOK, sy5, sy6, Nat.reduceEqDiff, ↓reduceIte, sy7, sy8, sy9, sya, oneOf, syb, syc, Nat.reduceAdd, Nat.reduceMul, syd, sye, syf, syg, syh, reduceCtorEq, show ¬ ((size : Int) < 1) from by omega, decide_false]
  refine call0 (sectors_spec h) ?_
  rintro _ w0 ⟨rfl, rfl⟩
  simp (maxSteps := 600000) (disch := omega) only [↓sy1, sy2, sy3, readOK, sy5, sy6, Nat.reduceEqDiff, ↓reduceIte, sy7, sy8, sy9, sya, oneOf, syb, syc, Nat.reduceAdd, Nat.reduceMul, syd, sye, syf, syg, syh, reduceCtorEq, show ¬ ((D.first.length : Int) - 2 < (size : Int)) from by omega, decide_false]
  refine call0 (fork_spec κ' h) ?_
  rintro _ w1 ⟨p', G1, rfl, hp1, hd1, hx1⟩
  have hcp : isCell (.pointer (some ⟨p', 0, none⟩)) = true := rfl
  have hg2 : Grow w1 (w1.alloc (.cells #[.pointer (some ⟨p', 0, none⟩), .int .i64 size, .int .i64 0] 60)) := (Keep.refl _ _).alloc _
  have hb2 := heap_alloc_new w1 (.cells #[.pointer (some ⟨p', 0, none⟩), .int .i64 size, .int .i64 0] 60)
  generalize hw2 : w1.alloc (.cells #[.pointer (some ⟨p', 0, none⟩), .int .i64 size, .int .i64 0] 60) = w2 at hg2 hb2
  simp (maxSteps := 600000) (disch := omega) only [↓sy1, sy2, sy3, readOK, sy5, sy6, Nat.reduceEqDiff, ↓reduceIte, sy7, sy8, sy9, sya, oneOf, syb, syc, Nat.reduceAdd, Nat.reduceMul, syd, sye, syf, syg, syh, reduceCtorEq, oneF_cell hcp, fill_gen, fillF_log (a := .pointer none) (b := .int .i64 0) (c := .int .i64 0) hcp (show isCell (.int .i64 (size : Int)) = true from rfl), agg3_cells hcp (show isCell (.int .i64 (size : Int)) = true from rfl) (show isCell (.int .i64 0) = true from rfl), hw2]
  have hq1 : w0.heap.size ≤ w1.heap.size := hx1.size
  have hx2 : Ext0 G1 w1 (G1.new w1.heap.size) w2 := .newB hg2
  have hno : ∀ b, w1.heap.size ≤ b → (G1.new w1.heap.size).own b = 0 ∧ (G1.new w1.heap.size).fix b = 0 := fun b hb => ⟨Gh.new_own hb, by simp [Gh.upto, Nat.not_lt.2 hb]⟩
  have hd2 := hd1.ext hx2 id
  have hlog : LogAt (G1.new w1.heap.size) κ' w2 w1.heap.size size 0 D := ⟨hκ, h1, h2, (hno _ (Nat.le_refl _)).1, p', hb2, hd2⟩
  have hhead : Calls Tryz.prog 18 #[.pointer (some ⟨w1.heap.size, 0, none⟩)] w2 (Ret fun v w' => ∃ u, v = .tuple #[u, .bool true] ∧ (∀ w3, lenF w3 0 u = some (.int .i64 0)) ∧ Grow w2 w') := by
    rcases hh with hh | hh
    · refine Ret.mono (head_zero hlog hh) fun v w' ⟨hv, hg⟩ => ⟨_, hv, fun w3 => rfl, hg⟩
    · refine Ret.mono (head_spec (ns := []) hlog hh (by simp) (by simp) (by simp)) fun v w' ⟨u, hv, hu, hg⟩ => ⟨u, hv, fun w3 => by rw [(Has.own hu).len]; rfl, hg⟩
  refine call0 hhead ?_
  rintro _ w3 ⟨u, rfl, hlu, hg3⟩
  have hb3 := hg3.gheap hb2
  obtain ⟨w4, hst, hb4, hk4⟩ := cell_store hb3 (i := 2) (by simp) (u := .int .i64 0) rfl
  have hb4' : w4.heap[w1.heap.size]? = some (.cells #[.pointer (some ⟨p', 0, none⟩), .int .i64 size, .int .i64 0] 60 (0, 0)) := by simpa using hb4
  have hc4 : w4.cell? ⟨w1.heap.size, 2, none⟩ = some (.int .i64 0) := by rw [cell_block hb4']; rfl
  simp (maxSteps := 600000) (disch := omega) only [↓sy1, sy2, sy3, readOK, sy5, sy6, Nat.reduceEqDiff, ↓reduceIte, sy7, sy8, sy9, sya, oneOf, syb, syc, Nat.reduceAdd, Nat.reduceMul, syd, sye, syf, syg, syh, reduceCtorEq, hlu, hst, hc4, show ¬ ((0 : Int) < 0) from by omega, decide_false]
  have hg14 : Grow w1 w4 := (hg2.trans hg3).then hk4 (fun b hb h => by omega)
  have hx4 : Ext (fun c => c = 0) (G1.new w1.heap.size) w3 (G1.new w1.heap.size) w4 := .on0 hk4 (hno _ (Nat.le_refl _)).1 (hno _ (Nat.le_refl _)).2
  have hd4 := (hd2.grow hg3).ext hx4 hκ
  exact R_out ⟨w1.heap.size, G1.new w1.heap.size, rfl, hq1, ⟨hκ, h1, h2, (hno _ (Nat.le_refl _)).1, p', hb4', hd4⟩, hx1.trans (.newB hg14)⟩
end Go.Proofs.YtienelpepioggaaGreat

/- Pages that are handed in; is there one out of range? -/
namespace Go.Proofs.YtienelpepioggaaGreat
open Go
set_option linter.unusedSimpArgs false
open Go.RowKit (intOf)
abbrev Pg := Int × List UInt8
/-- Pages in memory, held by others than κ. -/
def PagesH (G : Gh) (κ : Nat) (w : World) (v : Value) (ps : List Pg) (xs : List Value) : Prop :=
  Has 2 w v xs ∧ xs.length = 2 * ps.length ∧ (∀ b, v.ownBlock = some b → ps ≠ [] → b < w.heap.size ∧ G.own b ≠ κ) ∧
  ∀ i (h : i < ps.length), xs[2 * i]? = some (.int .i64 ps[i].1) ∧ ∃ u, xs[2 * i + 1]? = some u ∧ Held G κ w u (bs ps[i].2)
theorem PagesH.ext {κ : Nat} {G G' : Gh} {w w' : World} {v : Value} {ps : List Pg} {xs : List Value} (h : PagesH G κ w v ps xs) (hx : Ext (fun c => c = κ) G w G' w') : PagesH G' κ w' v ps xs := by
  obtain ⟨h1, h2, h3, h4⟩ := h
  have hne : xs ≠ [] → ps ≠ [] := fun h hp => h (List.eq_nil_of_length_eq_zero (by rw [h2, hp]; rfl))
  refine ⟨h1.keep hx.keep (fun b hb hxs => (h3 b hb (hne hxs)).2), h2, fun b hb hp => ?_, fun i hi => ?_⟩
  · obtain ⟨h5, h6⟩ := h3 b hb hp
    exact ⟨Nat.lt_of_lt_of_le h5 hx.size, by rw [hx.own b h5]; exact h6⟩
  · obtain ⟨h5, u, h6, h7⟩ := h4 i hi
    exact ⟨h5, u, h6, h7.ext hx⟩
theorem PagesH.grow {κ : Nat} {G : Gh} {w w' : World} {v : Value} {ps : List Pg} {xs : List Value} (h : PagesH G κ w v ps xs) (hg : Grow w w') : PagesH G κ w' v ps xs := h.ext (.grow hg)
theorem PagesH.nil (G : Gh) (κ : Nat) (w : World) : PagesH G κ w (.slice none 0 0) [] [] := ⟨Has.nil 2 w, rfl, fun _ _ h => absurd rfl h, fun i hi => by simp at hi⟩
theorem PagesH.len {κ : Nat} {G : Gh} {w : World} {v : Value} {ps : List Pg} {xs : List Value} (h : PagesH G κ w v ps xs) (w2 : World) : lenF w2 0 v = some (.int .i64 ps.length) := by
  rw [h.1.lenk (by omega), h.2.1, Nat.mul_div_cancel_left _ (by omega)]
theorem loadN2 {w : World} {b o : Nat} {x y : Value} (h0 : w.cell? ⟨b, o, none⟩ = some x) (h1 : w.cell? ⟨b, o + 1, none⟩ = some y) : loadN w ⟨b, o, none⟩ 0 2 = some [x, y] := by
  simp [loadN, add_lit, h0, h1]
theorem PagesH.at {κ : Nat} {G : Gh} {w : World} {v : Value} {ps : List Pg} {xs : List Value} (h : PagesH G κ w v ps xs) {i : Nat} (hi : i < ps.length) :
    ∃ a u, iaF 2 v (.int .i64 i) = some (.pointer (some a)) ∧ loadN w a 0 2 = some [.int .i64 ps[i].1, u] ∧ xs[2 * i + 1]? = some u ∧ Held G κ w u (bs ps[i].2) := by
  obtain ⟨h1, h2, h3, h4⟩ := h
  obtain ⟨b, o, h5, h6, _⟩ := h1.idxk (i := i) (by omega)
  obtain ⟨h7, u, h8, h9⟩ := h4 i hi
  obtain ⟨x, hx, hxc⟩ := h6 0 (by omega)
  obtain ⟨y, hy, hyc⟩ := h6 1 (by omega)
  rw [show i * 2 + 0 = 2 * i from by omega, h7] at hx
  rw [show i * 2 + 1 = 2 * i + 1 from by omega, h8] at hy
  cases hx; cases hy
  exact ⟨_, u, h5, loadN2 hxc hyc, h8, h9⟩
theorem PagesH.parts {κ : Nat} {G : Gh} {w : World} {v : Value} {ps : List Pg} {xs : List Value} (h : PagesH G κ w v ps xs) {i : Nat} (hi : i < ps.length) :
    ∃ b o u, iaF 2 v (.int .i64 i) = some (.pointer (some ⟨b, o, none⟩)) ∧ w.cell? ⟨b, o, none⟩ = some (.int .i64 ps[i].1) ∧ w.cell? ⟨b, o + 1, none⟩ = some u ∧ Held G κ w u (bs ps[i].2) := by
  obtain ⟨h1, h2, h3, h4⟩ := h
  obtain ⟨b, o, h5, h6, _⟩ := h1.idxk (i := i) (by omega)
  obtain ⟨h7, u, h8, h9⟩ := h4 i hi
  obtain ⟨x, hx, hxc⟩ := h6 0 (by omega)
  obtain ⟨y, hy, hyc⟩ := h6 1 (by omega)
  rw [show i * 2 + 0 = 2 * i from by omega, h7] at hx
  rw [show i * 2 + 1 = 2 * i + 1 from by omega, h8] at hy
  cases hx; cases hy
  exact ⟨b, o, u, h5, hxc, hyc, h9⟩
theorem stn2 {p : Nat} {t : TypeId} {w : World} {a b x y : Value} (h : w.heap[p]? = some (.cells #[a, b] t (0, 0))) (hx : isCell x = true) (hy : isCell y = true) :
    ∃ w', stnF w 2 (.pointer (some ⟨p, 0, none⟩)) (.agg #[x, y]) = some (undef, w') ∧ w'.heap[p]? = some (.cells #[x, y] t (0, 0)) ∧ Keep (fun b => b = p) w w' := by
  obtain ⟨w1, e1, h1, k1⟩ := storeN_one (i := 0) [y] h (by simp) hx
  obtain ⟨w2, e2, h2, k2⟩ := storeN_one (i := 1) [] h1 (by simp) hy
  refine ⟨w2, ?_, by simpa using h2, k1.trans k2⟩
  have he : storeN w ⟨p, 0, none⟩ 0 [x, y] = some w2 := by rw [e1, e2]; rfl
  simp [stnF, Value.cells, he]
section rules
variable {P : Program} {k : Kont} {e : Env} {w : World} {l : List GOp} {d : Option Nat}
/-- A call of a function value that has captured values. -/
theorem fvalc_rule {x : Operand} {args : Array Operand} {ts : Array TypeId} {ty : TypeId} {f : FuncId} {vs cs : List Value} {Φ : Value → World → Prop} (hf : callable P f = true) (hx : ev e x = .func (.func f) #[] cs.toArray) (hv : args.toList.map (ev e) = vs)
    (hc : Calls P f (vs ++ cs).toArray w (Ret Φ)) (h : ∀ v w', Φ v w' → R (symOps P l k (updO e d v) w')) :
    R (symOps P (⟨d, .hard (H (.call { callee := .value x, args := args, argTypes := ts }) ty), none⟩ :: l) k e w) := by
  refine enter_rule ?_ hc h
  subst hv
  have hargs : args.map (ev e) = (args.toList.map (ev e)).toArray := by rw [← Array.toList_map, Array.toArray_toList]
  simp only [execOp, H, resolve, hx, Deferred.ofValue, Sem.run_bind, Sem.run_pure, Result.andThen_ok, invoke]
  simp [run_callFunc hf, hargs]
end rules
/-- Its number is out of range. -/
def outOf (pages : Nat) (n : Int) : Prop := n < 0 ∨ (pages : Int) ≤ n
instance (pages : Nat) (n : Int) : Decidable (outOf pages n) := by unfold outOf; infer_instance
theorem enterCc {Φ : Value → World → Prop} {Ψ : List PanicEntry → World → Prop} {w : World} (v0 v1 : Value) (h : symS 14 Tryz.prog F58 ⟨fun e w => Φ (oneOf [e 3]) w, fun _ _ _ => False, fun e w => Φ (oneOf [e 3]) w, Ψ⟩ (upd (upd env0 0 v0) 1 v1) w) : Calls Tryz.prog 58 #[v0, v1] w (Out Φ Ψ) :=
  calls_sym (args := [v0, v1]) 14 [3] Tryz.func58 (by kernel_rfl) (by kernel_rfl) (by decide) (by kernel_rfl) (by kernel_rfl) (by simp) F58_eq h
theorem pred_spec {G : Gh} {κ : Nat} {w : World} {q size came B : Nat} {D : Dsk} {n : Int} {u : Value} (h : LogAt G κ w q size came D) (hB : w.cell? ⟨B, 0, none⟩ = some (.pointer (some ⟨q, 0, none⟩))) (hu : isCell u = true) :
    Calls Tryz.prog 58 #[.agg #[.int .i64 n, u], .pointer (some ⟨B, 0, none⟩)] w (Ret fun v w' => v = .bool (decide (outOf (D.first.length - size - 1) n)) ∧ Grow w w') := by
  apply enterCc
  apply R_in
  simp (maxSteps := 600000) (disch := omega) only [F58, ↓sy1, sy2, sy3, readOK, sy5, sy6, Nat.reduceEqDiff, ↓reduceIte, sy7, sy8, sy9, sya, oneOf, syb, syc, Nat.reduceAdd, Nat.reduceMul, syd, sye, syf, syg, syh, reduceCtorEq, agg2_cells (x := .int .i64 n) rfl hu]
  have hg1 : Grow w (w.alloc (.cells #[.int .i64 n, u] 79)) := (Keep.refl _ _).alloc _
  have hb1 := heap_alloc_new w (.cells #[.int .i64 n, u] 79)
  generalize w.alloc (.cells #[.int .i64 n, u] 79) = w1 at hg1 hb1 ⊢
  refine draw58_0 (fun _ => False) ?_
  have hgd : Grow w w1.drew := hg1.drew
  have hbd : w1.drew.heap[w.heap.size]? = some (.cells #[.int .i64 n, u] 79 (0, 0)) := hb1
  generalize w1.drew = w2 at hgd hbd ⊢
  have hn0 : w2.cell? ⟨w.heap.size, 0, none⟩ = some (.int .i64 n) := by rw [cell_block hbd]; rfl
  have hB2 := hgd.gcell hB
  by_cases h0 : n < 0
  · simp (maxSteps := 600000) (disch := omega) only [PL58_0, ↓sy1, sy2, sy3, readOK, sy5, sy6, Nat.reduceEqDiff, ↓reduceIte, sy7, sy8, sy9, sya, oneOf, syb, syc, Nat.reduceAdd, Nat.reduceMul, syd, sye, syf, syg, syh, reduceCtorEq, hn0, hB2, h0, decide_true, false_implies]
    exact ⟨Keep.refl _ _, R_out ⟨by simp [outOf, h0], hgd⟩⟩
  · simp (maxSteps := 600000) (disch := omega) only [PL58_0, ↓sy1, sy2, sy3, readOK, sy5, sy6, Nat.reduceEqDiff, ↓reduceIte, sy7, sy8, sy9, sya, oneOf, syb, syc, Nat.reduceAdd, Nat.reduceMul, syd, sye, syf, syg, syh, reduceCtorEq, hn0, hB2, h0, decide_false, false_implies]
    refine call0 (pages_spec (h.grow hgd)) ?_
    rintro _ w3 ⟨rfl, hg3⟩
    simp (maxSteps := 600000) (disch := omega) only [↓sy1, sy2, sy3, readOK, sy5, sy6, Nat.reduceEqDiff, ↓reduceIte, sy7, sy8, sy9, sya, oneOf, syb, syc, Nat.reduceAdd, Nat.reduceMul, syd, sye, syf, syg, syh, reduceCtorEq]
    refine ⟨hg3, ?_⟩
    refine R_out ⟨?_, hgd.trans hg3⟩
    simp [outOf, h0]
def anyOut (pages : Nat) (ps : List Pg) : Prop := ∃ p ∈ ps, outOf pages p.1
instance (pages : Nat) (ps : List Pg) : Decidable (anyOut pages ps) := by unfold anyOut; infer_instance
theorem pindex_spec {G : Gh} {κ : Nat} {w : World} {q size came B : Nat} {D : Dsk} {v : Value} {ps : List Pg} {xs : List Value} (h : LogAt G κ w q size came D) (hB : w.cell? ⟨B, 0, none⟩ = some (.pointer (some ⟨q, 0, none⟩))) (hp : PagesH G κ w v ps xs) (hl : ps.length ≤ 1048576) :
    Calls Tryz.prog 82 #[v, .func (.func 58) #[] #[.pointer (some ⟨B, 0, none⟩)]] w (Ret fun r w' => (¬ anyOut (D.first.length - size - 1) ps ∧ r = .int .i64 (-1) ∨ anyOut (D.first.length - size - 1) ps ∧ ∃ i : Nat, r = .int .i64 i) ∧ Grow w w') := by
  have hcl : callable Tryz.prog 58 = true := by kernel_rfl
  apply enter82
  apply R_in
  simp (maxSteps := 600000) (disch := omega) only [F82, ↓sy1, sy2, sy3, readOK, sy5, sy6, Nat.reduceEqDiff, ↓reduceIte, sy7, sy8, sy9, sya, oneOf, syb, syc, Nat.reduceAdd, Nat.reduceMul, syd, sye, syf, syg, syh, reduceCtorEq, hp.len]
  refine loop_rule (fun e w' => ∃ i : Nat, i ≤ ps.length ∧ e 8 = .int .i64 i ∧ e 7 = .int .i64 ps.length ∧ e 0 = v ∧ e 1 = .func (.func 58) #[] #[.pointer (some ⟨B, 0, none⟩)] ∧ (∀ j (hj : j < ps.length), j < i → ¬ outOf (D.first.length - size - 1) ps[j].1) ∧ Grow w w') (fun e _ => ps.length - (intOf (e 8)).toNat)
    ⟨0, by omega, by simp [upd, updO, ev], by simp [upd, updO, ev], by simp [upd, updO, ev], by simp [upd, updO, ev], fun j _ hj => by omega, Keep.refl _ _⟩ ?_
  rintro e w1 ⟨i, hi, e8, e7, e0, e1, hgood, hg⟩
  by_cases hlt : i < ps.length
  · obtain ⟨a, u, ha, hld, _, hu⟩ := (hp.grow hg).at hlt
    simp (maxSteps := 600000) (disch := omega) only [F82_L0, ↓sy1, sy2, sy3, readOK, sy5, sy6, Nat.reduceEqDiff, ↓reduceIte, sy7, sy8, sy9, sya, oneOf, syb, syc, Nat.reduceAdd, Nat.reduceMul, syd, sye, syf, syg, syh, reduceCtorEq, e8, e7, e0, e1, Int.ofNat_lt, hlt, decide_true, ha, hld]
    refine fvalc_rule hcl (cs := [.pointer (some ⟨B, 0, none⟩)]) (by simp only [upd_at, Nat.reduceEqDiff, reduceIte, ev_tmp, ev_const, List.map_cons, List.map_nil, e1]) (vs := [.agg #[.int .i64 ps[i].1, u]]) (by simp only [upd_at, Nat.reduceEqDiff, reduceIte, ev_tmp, ev_const, List.map_cons, List.map_nil]) (pred_spec (h.grow hg) (hg.gcell hB) hu.1.isCell) ?_
    rintro _ w2 ⟨rfl, hg2⟩
    by_cases h5 : outOf (D.first.length - size - 1) ps[i].1
    · simp (maxSteps := 600000) (disch := omega) only [↓sy1, sy2, sy3, readOK, sy5, sy6, Nat.reduceEqDiff, ↓reduceIte, sy7, sy8, sy9, sya, oneOf, syb, syc, Nat.reduceAdd, Nat.reduceMul, syd, sye, syf, syg, syh, reduceCtorEq, e8, e7, e0, e1, h5, decide_true]
      exact R_out ⟨.inr ⟨⟨_, List.getElem_mem hlt, h5⟩, i, rfl⟩, hg.trans hg2⟩
    · simp (maxSteps := 600000) (disch := omega) only [↓sy1, sy2, sy3, readOK, sy5, sy6, Nat.reduceEqDiff, ↓reduceIte, sy7, sy8, sy9, sya, oneOf, syb, syc, Nat.reduceAdd, Nat.reduceMul, syd, sye, syf, syg, syh, reduceCtorEq, e8, e7, e0, e1, h5, decide_false]
      refine R_out ⟨⟨i + 1, by omega, rfl, fun j hj hji => ?_, hg.trans hg2⟩, ?_⟩
      · by_cases hj' : j = i
        · subst hj'; exact h5
        · exact hgood j hj (by omega)
      · simp only [intOf]; omega
  · simp (maxSteps := 600000) (disch := omega) only [F82_L0, ↓sy1, sy2, sy3, readOK, sy5, sy6, Nat.reduceEqDiff, ↓reduceIte, sy7, sy8, sy9, sya, oneOf, syb, syc, Nat.reduceAdd, Nat.reduceMul, syd, sye, syf, syg, syh, reduceCtorEq, e8, e7, e0, e1, Int.ofNat_lt, hlt, decide_false]
    refine R_out ⟨.inl ?_, hg⟩
    rintro ⟨p, hp, ho⟩
    obtain ⟨j, hj, rfl⟩ := List.getElem_of_mem hp
    exact hgood j hj (by omega) ho
theorem pany_spec {G : Gh} {κ : Nat} {w : World} {q size came B : Nat} {D : Dsk} {v : Value} {ps : List Pg} {xs : List Value} (h : LogAt G κ w q size came D) (hB : w.cell? ⟨B, 0, none⟩ = some (.pointer (some ⟨q, 0, none⟩))) (hp : PagesH G κ w v ps xs) (hl : ps.length ≤ 1048576) :
    Calls Tryz.prog 57 #[v, .func (.func 58) #[] #[.pointer (some ⟨B, 0, none⟩)]] w (Ret fun r w' => r = .bool (decide (anyOut (D.first.length - size - 1) ps)) ∧ Grow w w') := by
  apply enter57
  apply R_in
  simp (maxSteps := 600000) (disch := omega) only [F57, ↓sy1, sy2, sy3, readOK, sy5, sy6, Nat.reduceEqDiff, ↓reduceIte, sy7, sy8, sy9, sya, oneOf, syb, syc, Nat.reduceAdd, Nat.reduceMul, syd, sye, syf, syg, syh, reduceCtorEq]
  refine call0 (pindex_spec h hB hp hl) ?_
  rintro v w1 ⟨⟨hall, rfl⟩ | ⟨hno, i, rfl⟩, hg⟩
  · simp (maxSteps := 600000) (disch := omega) only [↓sy1, sy2, sy3, readOK, sy5, sy6, Nat.reduceEqDiff, ↓reduceIte, sy7, sy8, sy9, sya, oneOf, syb, syc, Nat.reduceAdd, Nat.reduceMul, syd, sye, syf, syg, syh, reduceCtorEq, show ¬ ((0 : Int) ≤ -1) from by omega, decide_false]
    exact R_out ⟨by simp [hall], hg⟩
  · simp (maxSteps := 600000) (disch := omega) only [↓sy1, sy2, sy3, readOK, sy5, sy6, Nat.reduceEqDiff, ↓reduceIte, sy7, sy8, sy9, sya, oneOf, syb, syc, Nat.reduceAdd, Nat.reduceMul, syd, sye, syf, syg, syh, reduceCtorEq, show ((0 : Int) ≤ (i : Int)) from by omega, decide_true]
    exact R_out ⟨by simp [hno], hg⟩
end Go.Proofs.YtienelpepioggaaGreat

/- What Commit answers, and does, in plain words. -/
namespace Go.Proofs.YtienelpepioggaaGreat
open Go
def goodP (ps : List Pg) : Prop := (ps.map (·.1)).Nodup ∧ ∀ p ∈ ps, p.2.length = 512
instance (ps : List Pg) : Decidable (goodP ps) := by unfold goodP; infer_instance
/-- Its answer on a disk of n sectors. -/
def ccode (n size : Nat) (ps : List Pg) : Int :=
  if ps = [] then 0 else if min size 100 < ps.length then 6 else if anyOut (n - size - 1) ps then 2 else if goodP ps then 0 else 3
/-- The pages, the least number first. -/
def sortP (ps : List Pg) : List (Nat × List UInt8) := (ps.mergeSort (fun p q => decide (p.1 ≤ q.1))).map fun p => (p.1.toNat, p.2)
/-- The disk behind it. -/
def cdone (size : Nat) (D : Dsk) (ps : List Pg) : Dsk := if ps ≠ [] ∧ ccode D.first.length size ps = 0 then grouped size D (sortP ps) else D
theorem sortP_length (ps : List Pg) : (sortP ps).length = ps.length := by simp [sortP]
section
variable {ps : List Pg}
theorem sortP_mem (h0 : ∀ p ∈ ps, 0 ≤ p.1) {n : Nat} {b : List UInt8} : (n, b) ∈ sortP ps ↔ ((n : Int), b) ∈ ps := by
  simp only [sortP, List.mem_map, List.mem_mergeSort, Prod.mk.injEq]
  constructor
  · rintro ⟨p, hp, rfl, rfl⟩
    rw [Int.toNat_of_nonneg (h0 p hp)]; exact hp
  · intro h
    exact ⟨_, h, by simp, rfl⟩
theorem sortP_ints (h0 : ∀ p ∈ ps, 0 ≤ p.1) : zs ((sortP ps).map (·.1)) = (ps.mergeSort (fun p q => decide (p.1 ≤ q.1))).map (·.1) := by
  simp only [zs, sortP, List.map_map]
  refine List.map_congr_left fun p hp => ?_
  simp only [Function.comp]
  exact Int.toNat_of_nonneg (h0 p (List.mem_mergeSort.1 hp))
theorem sorted_lt (hn : (ps.map (·.1)).Nodup) : ((ps.mergeSort (fun p q => decide (p.1 ≤ q.1))).map (·.1)).Pairwise (· < ·) := by
  have h1 : (ps.mergeSort (fun p q => decide (p.1 ≤ q.1))).Pairwise (fun p q => decide (p.1 ≤ q.1) = true) :=
    List.pairwise_mergeSort (fun a b c h1 h2 => by simp at h1 h2 ⊢; omega) (fun a b => by simp; omega) ps
  have h2 : ((ps.mergeSort (fun p q => decide (p.1 ≤ q.1))).map (·.1)).Nodup := ((List.mergeSort_perm ps _).map (·.1)).nodup_iff.2 hn
  unfold List.Nodup at h2
  rw [List.pairwise_map] at h2 ⊢
  exact (h1.and h2).imp (fun ⟨h, h'⟩ => by simp at h; omega)
theorem sortP_rising (hn : (ps.map (·.1)).Nodup) (h0 : ∀ p ∈ ps, 0 ≤ p.1) : ((sortP ps).map (·.1)).Pairwise (· < ·) := by
  have h := sorted_lt hn
  rw [← sortP_ints h0, zs, List.pairwise_map] at h
  exact h.imp (fun h => by omega)
theorem sortP_keys (hn : (ps.map (·.1)).Nodup) (h0 : ∀ p ∈ ps, 0 ≤ p.1) : sortI (ps.map (·.1)) = zs ((sortP ps).map (·.1)) := by
  rw [sortP_ints h0]
  exact sortI_eq hn (sorted_lt hn) (fun a => ((List.mergeSort_perm ps _).map (·.1)).symm.mem_iff)
theorem sortP_unique (hn : (ps.map (·.1)).Nodup) (h0 : ∀ p ∈ ps, 0 ≤ p.1) {qs : List (Nat × List UInt8)} (hq : (qs.map (·.1)).Pairwise (· < ·)) (hm : ∀ n b, (n, b) ∈ qs ↔ ((n : Int), b) ∈ ps) : qs = sortP ps := by
  have h1 := sortP_rising hn h0
  rw [List.pairwise_map] at hq h1
  have hnd : ∀ {l : List (Nat × List UInt8)}, l.Pairwise (fun a b => a.1 < b.1) → l.Nodup := fun h => h.imp (fun hlt he => by subst he; omega)
  refine List.Perm.eq_of_pairwise (le := fun a b : Nat × List UInt8 => a.1 < b.1) (fun a b _ _ h1 h2 => by omega) hq h1 ?_
  exact (List.perm_ext_iff_of_nodup (hnd hq) (hnd h1)).2 (fun p => by obtain ⟨n, b⟩ := p; rw [hm, sortP_mem h0])
theorem sortP_bytes (h0 : ∀ p ∈ ps, 0 ≤ p.1) (h : ∀ p ∈ ps, p.2.length = 512) : ∀ p ∈ sortP ps, p.2.length = 512 := by
  rintro ⟨n, b⟩ hp
  exact h _ ((sortP_mem h0).1 hp)
theorem sortP_lt {pages : Nat} (h0 : ∀ p ∈ ps, 0 ≤ p.1) (h : ¬ anyOut pages ps) : ∀ p ∈ sortP ps, p.1 < pages := by
  rintro ⟨n, b⟩ hp
  have h1 := (sortP_mem h0).1 hp
  have h2 : ¬ outOf pages (n : Int) := fun ho => h ⟨_, h1, ho⟩
  simp only [outOf] at h2
  omega
end
theorem anyOut_nonneg {pages : Nat} {ps : List Pg} (h : ¬ anyOut pages ps) : ∀ p ∈ ps, 0 ≤ p.1 := fun p hp => by
  have : ¬ outOf pages p.1 := fun ho => h ⟨p, hp, ho⟩
  simp only [outOf] at this
  omega
theorem copyOps_take : ∀ (ps : List (Nat × List UInt8)) (k i : Nat) (h : i < ps.length), copyOps k (ps.take (i + 1)) = copyOps k (ps.take i) ++ [.wr (1 + k + i) ps[i].2]
  | p :: ps, k, 0, h => by simp [copyOps]
  | p :: ps, k, i + 1, h => by
    simp only [List.take_succ_cons, copyOps, List.getElem_cons_succ, List.cons_append]
    rw [copyOps_take ps (k + 1) i (by simpa using h)]
    rw [show 1 + (k + 1) + i = 1 + k + (i + 1) from by omega]
/-- The entries of the map of the first pages. -/
def ent (ps : List Pg) (xs : List Value) (j : Nat) : MapEntry := ⟨.int .i64 (ps.getD j (0, [])).1, xs.getD (2 * j + 1) undef, j⟩
def ents (ps : List Pg) (xs : List Value) (i : Nat) : Array MapEntry := ((List.range i).map (ent ps xs)).toArray
theorem ents_push (ps : List Pg) (xs : List Value) (i : Nat) : (ents ps xs i).push (ent ps xs i) = ents ps xs (i + 1) := by
  simp [ents, List.range_succ]
theorem ents_keys (ps : List Pg) (xs : List Value) {i : Nat} (h : i ≤ ps.length) : (ents ps xs i).toList.map (·.key) = ints ((ps.take i).map (·.1)) := by
  simp only [ents, ints, List.map_map]
  refine List.ext_getElem (by simp; omega) fun j h1 h2 => ?_
  simp at h1
  simp [ent, List.getElem?_eq_getElem (show j < ps.length by omega)]
theorem ents_keyed (ps : List Pg) (xs : List Value) (i : Nat) : IntKeyed .i64 (ents ps xs i).toList := by
  intro y hy
  simp only [ents, List.mem_map] at hy
  obtain ⟨j, _, rfl⟩ := hy
  exact ⟨_, rfl⟩
theorem ents_ok (ps : List Pg) (xs : List Value) {i : Nat} (h : i ≤ ps.length) (hn : ((ps.take i).map (·.1)).Nodup) : MapOk (ents ps xs i).toList i := by
  refine ⟨?_, ?_, fun e he => ?_⟩
  · have h1 := ents_keys ps xs h
    have h2 : ((ents ps xs i).toList.map (·.key)).Nodup := by
      rw [h1, ints]
      unfold List.Nodup at hn ⊢
      rw [List.pairwise_map]
      exact hn.imp (fun hne he => hne (by simpa using he))
    unfold List.Nodup at h2
    rwa [List.pairwise_map] at h2
  · simp only [ents, List.pairwise_map]
    exact List.pairwise_lt_range.imp (fun h => by simp [ent]; omega)
  · simp only [ents, List.mem_map, List.mem_range] at he
    obtain ⟨j, hj, rfl⟩ := he
    exact hj
/-- A lookup. -/
theorem ents_find (ps : List Pg) (xs : List Value) {i j : Nat} (h : i ≤ ps.length) (hn : ((ps.take i).map (·.1)).Nodup) (hj : j < i) : findInt .i64 (ps[j]'(by omega)).1 (ents ps xs i).toList = some (xs.getD (2 * j + 1) undef) := by
  have hy : ent ps xs j ∈ (ents ps xs i).toList := by simp only [ents, List.mem_map, List.mem_range]; exact ⟨j, hj, rfl⟩
  have := findInt_eq (n := (ps[j]'(by omega)).1) (ents_keyed ps xs i) (ents_ok ps xs h hn).keys hy (by simp [ent, List.getElem?_eq_getElem (show j < ps.length by omega)])
  simpa [ent] using this
theorem ents_none (ps : List Pg) (xs : List Value) {i : Nat} (h : i ≤ ps.length) {n : Int} (hno : n ∉ (ps.take i).map (·.1)) : findInt .i64 n (ents ps xs i).toList = none := by
  refine findInt_none (ents_keyed ps xs i) (fun y hy he => hno ?_)
  have h1 := ents_keys ps xs h
  have h2 : y.key ∈ ints ((ps.take i).map (·.1)) := by rw [← h1]; exact List.mem_map.2 ⟨y, hy, rfl⟩
  rw [he, ints, List.mem_map] at h2
  obtain ⟨a, ha, hae⟩ := h2
  cases hae; exact ha
end Go.Proofs.YtienelpepioggaaGreat

/- Commit. -/
namespace Go.Proofs.YtienelpepioggaaGreat
open Go
set_option linter.unusedSimpArgs false
open Go.RowKit (intOf)
theorem ptr_cells (a : Option Addr) : (Value.pointer a).cells = #[.pointer a] := rfl
set_option maxHeartbeats 4000000 in
theorem commit_spec {G : Gh} {κ : Nat} {w : World} {q size came : Nat} {D : Dsk} {v : Value} {ps : List Pg} {xs : List Value} (h : LogAt G κ w q size came D) (hp : PagesH G κ w v ps xs) (hl : ps.length ≤ 1048576) (ho : D.ops.length < 700000) :
    Calls Tryz.prog 28 #[.pointer (some ⟨q, 0, none⟩), v] w (Ret fun r w' => r = .int .i64 (ccode D.first.length size ps) ∧ ∃ G', LogAt G' κ w' q size came (cdone size D ps) ∧ Ext (fun c => c = κ) G w G' w') := by
  have hmost := h.cells.choose_spec.1.ok.most
  have hs1 := h.2.1
  have hs2 := h.2.2.1
  have hb1 := heap_alloc_new w (.cells #[.pointer (some ⟨q, 0, none⟩)] 27)
  have hbx : (w.alloc (.cells #[.pointer (some ⟨q, 0, none⟩)] 27)).cell? ⟨w.heap.size, 0, none⟩ = some (.pointer (some ⟨q, 0, none⟩)) := by rw [cell_block hb1]; rfl
  have hg1 : Grow w (w.alloc (.cells #[.pointer (some ⟨q, 0, none⟩)] 27)) := (Keep.refl _ _).alloc _
  have hs1w : w.heap.size < (w.alloc (.cells #[.pointer (some ⟨q, 0, none⟩)] 27)).heap.size := by simp
  apply enter28
  apply R_in
  by_cases hps : ps = []
  · simp (maxSteps := 600000) (disch := omega) only [F28, ↓sy1, sy2, sy3, readOK, sy5, sy6, Nat.reduceEqDiff, ↓reduceIte, sy7, sy8, sy9, sya, oneOf, syb, syc, Nat.reduceAdd, Nat.reduceMul, syd, sye, syf, syg, syh, reduceCtorEq, ptr_cells, hbx, hp.len, show ((ps.length : Int) = 0) = True from by simp [hps], decide_true]
    exact R_out ⟨by simp [ccode, hps], G, by simpa [cdone, hps] using h.grow hg1, .grow hg1⟩
  have hlen0 : 0 < ps.length := List.length_pos_iff.2 hps
  simp (maxSteps := 600000) (disch := omega) only [F28, ↓sy1, sy2, sy3, readOK, sy5, sy6, Nat.reduceEqDiff, ↓reduceIte, sy7, sy8, sy9, sya, oneOf, syb, syc, Nat.reduceAdd, Nat.reduceMul, syd, sye, syf, syg, syh, reduceCtorEq, ptr_cells, hbx, hp.len, show ¬ ((ps.length : Int) = 0) from by omega, decide_false]
  generalize w.alloc (.cells #[.pointer (some ⟨q, 0, none⟩)] 27) = w1 at hg1 hbx hb1 hs1w ⊢
  refine call0 (capacity_spec (h.grow hg1)) ?_
  rintro _ w2 ⟨rfl, rfl⟩
  by_cases hcap : min size 100 < ps.length
  · simp (maxSteps := 600000) (disch := omega) only [↓sy1, sy2, sy3, readOK, sy5, sy6, Nat.reduceEqDiff, ↓reduceIte, sy7, sy8, sy9, sya, oneOf, syb, syc, Nat.reduceAdd, Nat.reduceMul, syd, sye, syf, syg, syh, reduceCtorEq, show (((min size 100 : Nat) : Int) < (ps.length : Int)) from by omega, decide_true]
    exact R_out ⟨by simp [ccode, hps, hcap], G, by simpa [cdone, ccode, hps, hcap] using h.grow hg1, .grow hg1⟩
  simp (maxSteps := 600000) (disch := omega) only [↓sy1, sy2, sy3, readOK, sy5, sy6, Nat.reduceEqDiff, ↓reduceIte, sy7, sy8, sy9, sya, oneOf, syb, syc, Nat.reduceAdd, Nat.reduceMul, syd, sye, syf, syg, syh, reduceCtorEq, show ¬ (((min size 100 : Nat) : Int) < (ps.length : Int)) from by omega, decide_false]
  refine call0 (pany_spec (h.grow hg1) hbx (hp.grow hg1) hl) ?_
  rintro _ w2 ⟨rfl, hg2⟩
  have hg12 := hg1.trans hg2
  by_cases hany : anyOut (D.first.length - size - 1) ps
  · simp (maxSteps := 600000) (disch := omega) only [↓sy1, sy2, sy3, readOK, sy5, sy6, Nat.reduceEqDiff, ↓reduceIte, sy7, sy8, sy9, sya, oneOf, syb, syc, Nat.reduceAdd, Nat.reduceMul, syd, sye, syf, syg, syh, reduceCtorEq, hany, decide_true]
    exact R_out ⟨by simp [ccode, hps, hcap, hany], G, by simpa [cdone, ccode, hps, hcap, hany] using h.grow hg12, .grow hg12⟩
  have h0 := anyOut_nonneg hany
  simp (maxSteps := 600000) (disch := omega) only [↓sy1, sy2, sy3, readOK, sy5, sy6, Nat.reduceEqDiff, ↓reduceIte, sy7, sy8, sy9, sya, oneOf, syb, syc, Nat.reduceAdd, Nat.reduceMul, syd, sye, syf, syg, syh, reduceCtorEq, hany, decide_false, hp.len]
  have hbx2 := hg2.gcell hbx
  have hsz2 := hg12.size
  have hm0 := heap_alloc_new w2 (.map #[] 0)
  have hg3 : Grow w2 (w2.alloc (.map #[] 0)) := (Keep.refl _ _).alloc _
  have hmlt : w2.heap.size < (w2.alloc (.map #[] 0)).heap.size := by simp
  generalize w2.alloc (.map #[] 0) = w3 at hm0 hg3 hmlt ⊢
  generalize hm : w2.heap.size = m at hm0 hmlt hsz2 ⊢
  have hg13 := hg12.trans hg3
  have hcgood : goodP ps → ccode D.first.length size ps = 0 := fun hg => by simp [ccode, hps, hcap, hany, hg]
  have hcbad : ¬ goodP ps → ccode D.first.length size ps = 3 ∧ cdone size D ps = D := fun hg => by simp [cdone, ccode, hps, hcap, hany, hg]
  have hunder : Tryz.prog.underlying 64 = some (.map 3 46) := by kernel_rfl
  have hunderK : Tryz.prog.underlying 3 = some (.int .i64) := by kernel_rfl
  refine loop_rule (fun e w' => ∃ i : Nat, i ≤ ps.length ∧ e 31 = .int .i64 i ∧ e 30 = .int .i64 ps.length ∧ e 29 = v ∧ e 5 = .map (some m) ∧ e 2 = .pointer (some ⟨w.heap.size, 0, none⟩) ∧ e 1 = v ∧
      ((ps.take i).map (·.1)).Nodup ∧ (∀ j (hj : j < ps.length), j < i → ps[j].2.length = 512) ∧ Keep (fun b => b = m) w3 w' ∧ w'.heap[m]? = some (.map (ents ps xs i) i)) (fun e _ => ps.length - (intOf (e 31)).toNat)
    ⟨0, by omega, by simp [upd, updO, ev], by simp [upd, updO, ev], by simp [upd, updO, ev], by simp [upd, updO, ev], by simp [upd, updO, ev], by simp [upd, updO, ev], by simp, fun j _ hj => by omega, Keep.refl _ _, by simpa [ents] using hm0⟩ ?_
  rintro e w4 ⟨i, hi, e31, e30, e29, e5, e2, e1, hnd, h512, hk4, hm4⟩
  have hg4 : Grow w w4 := hg13.then hk4 (fun b hb hbm => by omega)
  by_cases hlt : i < ps.length
  · obtain ⟨a, u, ha, hld, hxu, hu⟩ := (hp.grow hg4).at hlt
    have huc := hu.1.isCell
    have hp0 := heap_alloc_new w4 (.cells #[.int .i64 0, .slice none 0 0] 79)
    have hga : Grow w4 (w4.alloc (.cells #[.int .i64 0, .slice none 0 0] 79)) := (Keep.refl _ _).alloc _
    obtain ⟨w5, hst, hp5, hk5⟩ := stn2 (x := .int .i64 ps[i].1) (y := u) hp0 rfl huc
    have hg5 : Grow w4 w5 := hga.then hk5 (fun b hb hbm => by omega)
    have hc0 : w5.cell? ⟨w4.heap.size, 0, none⟩ = some (.int .i64 ps[i].1) := by rw [cell_block hp5]; rfl
    have hc1 : w5.cell? ⟨w4.heap.size, 1, none⟩ = some u := by rw [cell_block hp5]; rfl
    have hm5 := hg5.gheap hm4
    have hlen : ∀ w', lenF w' 0 u = some (.int .i64 ps[i].2.length) := fun w' => by rw [Has.lenB hu.1]
    have hout : ∀ {w' : World}, Grow w w' → ¬ goodP ps → R ((Value.int .i64 3) = .int .i64 (ccode D.first.length size ps) ∧ ∃ G', LogAt G' κ w' q size came (cdone size D ps) ∧ Ext (fun c => c = κ) G w G' w') := fun {w'} hgw hbad => by
      obtain ⟨c1, c2⟩ := hcbad hbad
      exact R_out ⟨by rw [c1], G, by rw [c2]; exact h.grow hgw, .grow hgw⟩
    by_cases hin : ps[i].1 ∈ (ps.take i).map (·.1)
    · have hbad : ¬ goodP ps := fun hg => by
        have h1 := hg.1
        rw [← List.take_append_drop i ps, List.map_append, List.nodup_append] at h1
        refine h1.2.2 _ hin ps[i].1 (List.mem_map.2 ⟨ps[i], ?_, rfl⟩) rfl
        exact List.mem_iff_getElem?.2 ⟨0, by simp [List.getElem?_eq_getElem hlt]⟩
      obtain ⟨r, hr, hre⟩ := List.mem_map.1 hin
      obtain ⟨j, hj, hjr⟩ := List.getElem_of_mem hr
      have hji : j < i := by simp at hj; omega
      have hjp : (ps[j]'(by omega)).1 = ps[i].1 := by rw [← hre, ← hjr]; simp
      have hf := ents_find ps xs hi hnd hji
      rw [hjp] at hf
      obtain ⟨_, u', _, _, hxu', hu'⟩ := (hp.grow hg4).at (i := j) (by omega)
      rw [List.getD_eq_getElem?_getD, hxu'] at hf
      have hlk := lkp_eq (z := .slice none 0 0) hm5 (ents_keyed ps xs i) hf
      obtain ⟨b, hb, hbn⟩ := hu'.1.isnil
      have hbf : b = false := by
        cases b with
        | false => rfl
        | true =>
          have h3 := (hbn rfl).1
          have h4 := congrArg List.length h3
          have h5 := h512 j (by omega) hji
          rw [bs_length, h5] at h4; cases h4
      subst hbf
      simp (maxSteps := 600000) (disch := omega) only [F28_L0, ↓sy1, sy2, sy3, readOK, sy5, sy6, Nat.reduceEqDiff, ↓reduceIte, sy7, sy8, sy9, sya, oneOf, syb, syc, Nat.reduceAdd, Nat.reduceMul, syd, sye, syf, syg, syh, reduceCtorEq, e31, e30, e29, e5, e2, e1, Int.ofNat_lt, hlt, decide_true, ha, hld, agg2_cells (x := .int .i64 0) (y := .slice none 0 0) rfl rfl, hst, hc0, hc1, Option.getD_some, hlk, hb true, hlen]
      exact hout (hg4.trans hg5) hbad
    · have hf := ents_none ps xs hi hin
      have hlk := lkp_none (z := .slice none 0 0) hm5 (ents_keyed ps xs i) hf
      have hnil : eqnF 1 true (.slice none 0 0) = some (.bool false) := rfl
      by_cases h5 : ps[i].2.length = 512
      · simp (maxSteps := 600000) (disch := omega) only [F28_L0, ↓sy1, sy2, sy3, readOK, sy5, sy6, Nat.reduceEqDiff, ↓reduceIte, sy7, sy8, sy9, sya, oneOf, syb, syc, Nat.reduceAdd, Nat.reduceMul, syd, sye, syf, syg, syh, reduceCtorEq, e31, e30, e29, e5, e2, e1, Int.ofNat_lt, hlt, decide_true, ha, hld, agg2_cells (x := .int .i64 0) (y := .slice none 0 0) rfl rfl, hst, hc0, hc1, hlk, hnil, hlen, show ((ps[i].2.length : Int) = 512) = True from by simp [h5], decide_true, Bool.not_true]
        refine put_rule (kk := .i64) (n := ps[i].1) (v := u) (by simp only [upd_at, Nat.reduceEqDiff, reduceIte, ev_tmp, ev_const, List.map_cons, List.map_nil, e5]) (by simp only [upd_at, Nat.reduceEqDiff, reduceIte, ev_tmp, ev_const, List.map_cons, List.map_nil]) (by simp only [upd_at, Nat.reduceEqDiff, reduceIte, ev_tmp, ev_const, List.map_cons, List.map_nil]) hunder hunderK hm5 (ents_keyed ps xs i) (fun hno w6 hk6 hm6 => ?_) (fun j y hj hyk => absurd ?_ hin)
        · have hent : (⟨.int .i64 ps[i].1, u, i⟩ : MapEntry) = ent ps xs i := by simp [ent, List.getElem?_eq_getElem hlt, hxu]
          rw [hent, ents_push] at hm6
          simp (maxSteps := 600000) (disch := omega) only [↓sy1, sy2, sy3, readOK, sy5, sy6, Nat.reduceEqDiff, ↓reduceIte, sy7, sy8, sy9, sya, oneOf, syb, syc, Nat.reduceAdd, Nat.reduceMul, syd, sye, syf, syg, syh, reduceCtorEq, e31, e30, e29, e5, e2, e1]
          refine R_out ⟨⟨i + 1, by omega, rfl, ?_, fun j hj hji => ?_, ?_, hm6⟩, ?_⟩
          · rw [List.take_succ_eq_append_getElem hlt, List.map_append, List.nodup_append]
            refine ⟨hnd, by simp, fun a ha b hb => ?_⟩
            simp at hb; subst hb
            intro hab; subst hab; exact hin ha
          · by_cases hj' : j = i
            · subst hj'; exact h5
            · exact h512 j hj (by omega)
          · exact (hk4.then hg5 (fun _ _ h => h.elim)).then hk6 (fun b hb hbm => hbm)
          · simp only [intOf]; omega
        · have h6 := ents_keys ps xs hi
          have h7 : y.key ∈ ints ((ps.take i).map (·.1)) := by rw [← h6]; exact List.mem_map.2 ⟨y, List.mem_of_getElem? hj, rfl⟩
          rw [hyk, ints, List.mem_map] at h7
          obtain ⟨a, ha, hae⟩ := h7
          cases hae; exact ha
      · simp (maxSteps := 600000) (disch := omega) only [F28_L0, ↓sy1, sy2, sy3, readOK, sy5, sy6, Nat.reduceEqDiff, ↓reduceIte, sy7, sy8, sy9, sya, oneOf, syb, syc, Nat.reduceAdd, Nat.reduceMul, syd, sye, syf, syg, syh, reduceCtorEq, e31, e30, e29, e5, e2, e1, Int.ofNat_lt, hlt, decide_true, ha, hld, agg2_cells (x := .int .i64 0) (y := .slice none 0 0) rfl rfl, hst, hc0, hc1, hlk, hnil, hlen, show ¬ ((ps[i].2.length : Int) = 512) from by omega, decide_false, Bool.not_false]
        exact hout (hg4.trans hg5) (fun hg => h5 (hg.2 _ (List.getElem_mem hlt)))
  · have hie : i = ps.length := by omega
    subst hie
    rw [List.take_length] at hnd
    have hgood : goodP ps := ⟨hnd, fun p hp => by
      obtain ⟨j, hj, rfl⟩ := List.getElem_of_mem hp
      exact h512 j hj hj⟩
    have hcc := hcgood hgood
    have hcd : cdone size D ps = grouped size D (sortP ps) := by simp [cdone, hps, hcc]
    rw [hcc, hcd]
    simp (maxSteps := 600000) (disch := omega) only [F28_L0, ↓sy1, sy2, sy3, readOK, sy5, sy6, Nat.reduceEqDiff, ↓reduceIte, sy7, sy8, sy9, sya, oneOf, syb, syc, Nat.reduceAdd, Nat.reduceMul, syd, sye, syf, syg, syh, reduceCtorEq, e31, e30, e29, e5, e2, e1, Int.ofNat_lt, hlt, decide_false]
    refine call0 keys_spec ?_
    rintro _ w5 ⟨rfl, rfl⟩
    have hb5 := heap_alloc_new w4 (.cells #[.map (some m)] 64)
    have hg5 : Grow w4 (w4.alloc (.cells #[.map (some m)] 64)) := (Keep.refl _ _).alloc _
    simp (maxSteps := 600000) (disch := omega) only [↓sy1, sy2, sy3, readOK, sy5, sy6, Nat.reduceEqDiff, ↓reduceIte, sy7, sy8, sy9, sya, oneOf, syb, syc, Nat.reduceAdd, Nat.reduceMul, syd, sye, syf, syg, syh, reduceCtorEq]
    generalize w4.alloc (.cells #[.map (some m)] 64) = w5 at hb5 hg5 ⊢
    have hbc5 : w5.cell? ⟨w4.heap.size, 0, none⟩ = some (.map (some m)) := by rw [cell_block hb5]; rfl
    have hks := ents_keys ps xs (Nat.le_refl ps.length)
    rw [List.take_length] at hks
    have hnum : ∀ a ∈ ps.map (·.1), 0 ≤ a ∧ a < 1099511627776 := fun a ha => by
      obtain ⟨p, hp, rfl⟩ := List.mem_map.1 ha
      have h1 := h0 p hp
      have h2 : ¬ outOf (D.first.length - size - 1) p.1 := fun hc => hany ⟨p, hp, hc⟩
      simp only [outOf] at h2
      omega
    have hsg := hg4.trans hg5
    refine call0 (sorted_spec hbc5 (hg5.gheap hm4) (ents_ok ps xs (Nat.le_refl _) (by rw [List.take_length]; exact hnd)) hks hnum (by simp; omega)) ?_
    rintro nv w6 ⟨hnv, hg6⟩
    rw [sortP_keys hnd h0] at hnv
    have hg6w := hsg.trans hg6
    have hx6 : Ext (fun c => c = κ) G w (G.new w.heap.size) w6 := .newB hg6w
    have hκ := h.1
    have hnew : ∀ b, w.heap.size ≤ b → (G.new w.heap.size).own b ≠ κ := fun b hb hc => hκ (by rw [Gh.new_own hb] at hc; exact hc.symm)
    have hlog6 : LogAt (G.new w.heap.size) κ w6 q size came D := h.ext (K := fun _ => False) (.newB hg6w) id id
    have hp6 := hp.ext hx6
    have hnvH : Held (G.new w.heap.size) κ w6 nv (ints (zs ((sortP ps).map (·.1)))) := ⟨Has.own hnv, fun b hb _ => by
      obtain ⟨hbb, hbl⟩ := World.ownsRow.lt hnv b hb
      exact ⟨hbl, hnew b (Nat.le_trans hsg.size hbb)⟩⟩
    have hm6 := (hg5.trans hg6).gheap hm4
    have hbx6 := ((hg2.trans hg3).then hk4 (fun b hb hbm => by have := hg2.size; omega) |>.trans (hg5.trans hg6)).gcell hbx
    have hml : m < w6.heap.size := (Array.getElem?_eq_some_iff.1 hm6).1
    generalize hG6 : G.new w.heap.size = G6 at hx6 hnew hlog6 hp6 hnvH
    clear hnv hg6 hg5 hb5 hbc5 hsg hks
    have hsl := sortP_length ps
    have hnl : ∀ w', lenF w' 0 nv = some (.int .i64 (sortP ps).length) := fun w' => by rw [Has.lenI hnvH.1]; simp
    simp (maxSteps := 600000) (disch := omega) only [↓sy1, sy2, sy3, readOK, sy5, sy6, Nat.reduceEqDiff, ↓reduceIte, sy7, sy8, sy9, sya, oneOf, syb, syc, Nat.reduceAdd, Nat.reduceMul, syd, sye, syf, syg, syh, reduceCtorEq, hnl]
    have hcl := Nat.le_of_not_lt hcap
    have hqb := sortP_bytes h0 hgood.2
    have hql := sortP_lt (pages := D.first.length - size - 1) h0 hany
    have hqn := nodup_lt (sortP_rising hnd h0)
    refine loop_rule (fun e w' => ∃ (i : Nat) (G' : Gh), i ≤ (sortP ps).length ∧ e 57 = .int .i64 i ∧ e 56 = .int .i64 (sortP ps).length ∧ e 55 = nv ∧ e 8 = nv ∧ e 5 = .map (some m) ∧ e 2 = .pointer (some ⟨w.heap.size, 0, none⟩) ∧
        LogAt G' κ w' q size came (adds D (copyOps 0 ((sortP ps).take i))) ∧ Ext (fun c => c = κ) G6 w6 G' w') (fun e _ => (sortP ps).length - (intOf (e 57)).toNat)
      ⟨0, G6, by omega, by simp [upd, updO, ev], by simp [upd, updO, ev], by simp [upd, updO, ev], by simp [upd, updO, ev], by simp [upd, updO, ev, e5], by simp [upd, updO, ev, e2], hlog6, .refl _ _ _⟩ ?_
    rintro e w7 ⟨i, G7, hi, e57, e56, e55, e8, e5, e2, hlog7, hx7⟩
    have hcells7 := hlog7
    obtain ⟨_, _, _, ho7, p, hq7, hd7⟩ := hcells7
    have hqp : ∀ {w'}, Grow w7 w' → w'.cell? ⟨q, 0, none⟩ = some (.pointer (some ⟨p, 0, none⟩)) ∧ w'.cell? ⟨q, 1, none⟩ = some (.int .i64 size) := fun hg => ⟨by rw [cell_block (hg.gheap hq7)]; rfl, by rw [cell_block (hg.gheap hq7)]; rfl⟩
    have hbx7 := hx7.keep.cell hbx6 (hnew _ (Nat.le_refl _))
    have hm7 := hx7.keep.heap hm6 (hnew _ (by omega))
    have hf : (adds D (copyOps 0 ((sortP ps).take i))).first = D.first := adds_first _ _
    have hops : (adds D (copyOps 0 ((sortP ps).take i))).ops.length ≤ D.ops.length + i := by
      rw [adds_ops, List.length_append, copyOps_length]; simp; omega
    by_cases hlt7 : i < (sortP ps).length
    · obtain ⟨a, ha, hac, _⟩ := Has.getI (l := zs ((sortP ps).map (·.1))) (hnvH.ext hx7).1 (i := i) (by simpa using hlt7)
      have hz : (zs ((sortP ps).map (·.1)))[i]'(by simpa using hlt7) = (((sortP ps)[i].1 : Nat) : Int) := by simp
      rw [hz] at hac
      simp (maxSteps := 600000) (disch := omega) only [F28_L1, ↓sy1, sy2, sy3, readOK, sy5, sy6, Nat.reduceEqDiff, ↓reduceIte, sy7, sy8, sy9, sya, oneOf, syb, syc, Nat.reduceAdd, Nat.reduceMul, syd, sye, syf, syg, syh, reduceCtorEq, e57, e56, e55, e8, e5, e2, Int.ofNat_lt, hlt7, decide_true, ha, hac]
      refine draw28_0 (fun _ => False) ?_
      have hgd : Grow w7 w7.drew := (Keep.refl _ _).drew
      generalize w7.drew = w8 at hgd ⊢
      have hmem : ((((sortP ps)[i].1 : Nat) : Int), (sortP ps)[i].2) ∈ ps := (sortP_mem h0).1 (List.getElem_mem hlt7)
      obtain ⟨j, hj, hjp⟩ := List.getElem_of_mem hmem
      have hf8 := ents_find ps xs (Nat.le_refl _) (by rw [List.take_length]; exact hnd) hj
      rw [hjp] at hf8
      obtain ⟨_, u, _, _, hxu, hu⟩ := (hp6.ext (hx7.trans (.grow hgd))).at hj
      rw [List.getD_eq_getElem?_getD, hxu, Option.getD_some] at hf8
      rw [hjp] at hu
      have hlk := lkp_eq (z := .slice none 0 0) (hgd.gheap hm7) (ents_keyed ps xs _) hf8
      simp (maxSteps := 600000) (disch := omega) only [PL28_0, ↓sy1, sy2, sy3, readOK, sy5, sy6, Nat.reduceEqDiff, ↓reduceIte, sy7, sy8, sy9, sya, oneOf, syb, syc, Nat.reduceAdd, Nat.reduceMul, syd, sye, syf, syg, syh, reduceCtorEq, e57, e56, e55, e8, e5, e2, hqp hgd, hgd.gcell hbx7, hlk]
      rw [show (1 : Int) + (i : Int) = ((1 + i : Nat) : Int) from by omega]
      refine call0 (write_spec (hd7.grow hgd) (n := 1 + i) (by rw [hf]; omega) (hqb _ (List.getElem_mem hlt7)) hu.1 (by omega)) ?_
      rintro _ w9 ⟨rfl, G9, hd9, hx9⟩
      simp (maxSteps := 600000) (disch := omega) only [↓sy1, sy2, sy3, readOK, sy5, sy6, Nat.reduceEqDiff, ↓reduceIte, sy7, sy8, sy9, sya, oneOf, syb, syc, Nat.reduceAdd, Nat.reduceMul, syd, sye, syf, syg, syh, reduceCtorEq, e57, e56, e55, e8, e5, e2]
      have hx79 : Ext (fun c => c = κ) G7 w7 G9 w9 := (Ext.grow hgd).trans hx9
      have hstep : adds D (copyOps 0 ((sortP ps).take (i + 1))) = (adds D (copyOps 0 ((sortP ps).take i))).add (.wr (1 + i) (sortP ps)[i].2) := by
        rw [copyOps_take _ 0 i hlt7, adds_snoc, show 1 + 0 + i = 1 + i from by omega]
      refine R_out ⟨⟨i + 1, G9, by omega, rfl, by rw [hstep]; exact hlog7.put (hqp (Keep.refl _ _)).1 hx79 rfl hd9, hx7.trans hx79⟩, ?_⟩
      simp only [intOf]; omega
    · have hie7 : i = (sortP ps).length := by omega
      subst hie7
      rw [List.take_length] at hlog7 hd7 hops hf
      simp (maxSteps := 600000) (disch := omega) only [F28_L1, ↓sy1, sy2, sy3, readOK, sy5, sy6, Nat.reduceEqDiff, ↓reduceIte, sy7, sy8, sy9, sya, oneOf, syb, syc, Nat.reduceAdd, Nat.reduceMul, syd, sye, syf, syg, syh, reduceCtorEq, e57, e56, e55, e8, e5, e2, Int.ofNat_lt, hlt7, decide_false, hqp (Keep.refl _ _), hbx7]
      refine call0 (flush_spec hd7 (by omega)) ?_
      rintro _ w8 ⟨rfl, G8, hd8, hx8⟩
      have hlog8 := hlog7.put (E := (adds D (copyOps 0 (sortP ps))).add .fl) (hqp (Keep.refl _ _)).1 hx8 rfl hd8
      have hx68 := hx7.trans hx8
      have hbx8 := hx68.keep.cell hbx6 (hnew _ (Nat.le_refl _))
      simp (maxSteps := 600000) (disch := omega) only [↓sy1, sy2, sy3, readOK, sy5, sy6, Nat.reduceEqDiff, ↓reduceIte, sy7, sy8, sy9, sya, oneOf, syb, syc, Nat.reduceAdd, Nat.reduceMul, syd, sye, syf, syg, syh, reduceCtorEq, e57, e56, e55, e8, e5, e2, hbx8]
      refine call0 (setHead_spec hlog8 (hnvH.ext hx68).1 (by rw [List.length_map]; omega) (by simp [Dsk.add]; omega)) ?_
      rintro _ w9 ⟨G9, hlog9, hx9⟩
      have hx69 := hx68.trans hx9
      have hbx9 := hx69.keep.cell hbx6 (hnew _ (Nat.le_refl _))
      simp (maxSteps := 600000) (disch := omega) only [↓sy1, sy2, sy3, readOK, sy5, sy6, Nat.reduceEqDiff, ↓reduceIte, sy7, sy8, sy9, sya, oneOf, syb, syc, Nat.reduceAdd, Nat.reduceMul, syd, sye, syf, syg, syh, reduceCtorEq, e57, e56, e55, e8, e5, e2, hbx9]
      refine call0 (home_spec hlog9 (hnvH.ext hx69) (by omega) (fun p hp => ⟨hqb p hp, ?_⟩) (fun i hi => ?_) (by simp [Dsk.add]; omega)) ?_
      · have := hql p hp
        simp only [Dsk.add, hf]; omega
      · rw [Dsk.image_fl, Dsk.image_wr, Dsk.image_fl, List.getElem?_set_ne (by omega)]
        have := image_copied (sortP ps) 0 D i hi (by omega)
        rw [show 1 + 0 + i = 1 + i from by omega] at this
        exact this
      rintro _ w10 ⟨G10, hlog10, hx10⟩
      simp (maxSteps := 600000) (disch := omega) only [↓sy1, sy2, sy3, readOK, sy5, sy6, Nat.reduceEqDiff, ↓reduceIte, sy7, sy8, sy9, sya, oneOf, syb, syc, Nat.reduceAdd, Nat.reduceMul, syd, sye, syf, syg, syh, reduceCtorEq]
      have hgr : grouped size D (sortP ps) = homed size ((((adds D (copyOps 0 (sortP ps))).add .fl).add (.wr 0 (headB ((sortP ps).map (·.1))))).add .fl) (sortP ps) := by rw [grouped_eq, homed]
      exact R_out ⟨G10, by rw [hgr]; exact hlog10, hx6.trans (hx69.trans hx10)⟩
end Go.Proofs.YtienelpepioggaaGreat

/- A deed's pages. -/
namespace Go.Proofs.YtienelpepioggaaGreat
open Go
set_option linter.unusedSimpArgs false
open Go.RowKit (intOf)
theorem elemPg : ElemIs Tryz.prog 77 79 2 32 (.agg #[.int .i64 0, .slice none 0 0]) := elem_of (by kernel_rfl)
theorem Has.newp {w : World} {x y : Value} {t : TypeId} : Has 2 (w.alloc (.cells #[x, y] t)) (.slice (some ⟨w.heap.size, 0, none⟩) 1 1) [x, y] := by
  refine .inl ⟨w.heap.size, 0, 1, 1, rfl, rfl, Nat.le_refl _, fun j u hj => ?_⟩
  rw [cell_block (heap_alloc_new w _)]
  match j, hj with
  | 0, hj => simpa using hj
  | 1, hj => simpa using hj
theorem fillF_p {a b x y : Value} : fillF #[a, b] [(0, 2, .agg #[x, y])] = some #[x, y] := by
  rw [fillF_two (by simp), fillF_nil]; simp
end Go.Proofs.YtienelpepioggaaGreat

/- What must be whatever is asked (logs). -/
namespace Go.Proofs.YtienelpepioggaaGreat
open Go
set_option linter.unusedSimpArgs false
open Go.RowKit (intOf)
theorem zero_image {n i : Nat} (h : i < n) : (Dsk.zero n).image[i]? = some zsec := by
  have h1 : (Dsk.zero n).image = (Dsk.zero n).first := by
    have := (Dsk.zero n).cut_zero
    rwa [show (Dsk.zero n).cut 0 = Dsk.zero n from rfl] at this
  rw [h1, show (Dsk.zero n).first = List.replicate n zsec from rfl, List.getElem?_replicate, if_pos h]
theorem zero_len (n : Nat) : (Dsk.zero n).first.length = n := List.length_replicate
end Go.Proofs.YtienelpepioggaaGreat

/- The reference's log: a fork of its disk, what it tells, open over an empty disk. -/
namespace Go.Proofs.YtienelpepioggaaGreat
open Go
set_option linter.unusedSimpArgs false
open Go.RowKit (intOf)
end Go.Proofs.YtienelpepioggaaGreat

/- Logs over a new disk: the program's and the reference's. -/
namespace Go.Proofs.YtienelpepioggaaGreat
open Go
set_option linter.unusedSimpArgs false
open Go.RowKit (intOf)
end Go.Proofs.YtienelpepioggaaGreat

/- Deeds in memory; all pages; groups one after the other. -/
namespace Go.Proofs.YtienelpepioggaaGreat
open Go
set_option linter.unusedSimpArgs false
open Go.RowKit (intOf)
theorem cdone_ok {n size : Nat} {D : Dsk} {ps : List Pg} (hn : D.first.length = n) (h : ccode n size ps = 0) (hne : ps ≠ []) : cdone size D ps = grouped size D (sortP ps) := by
  unfold cdone; rw [hn, if_pos ⟨hne, h⟩]
/-- Nothing waits. -/
def Flat (D : Dsk) : Prop := D.wait = fun _ => []
theorem Flat.waiting {D : Dsk} (h : Flat D) : D.waiting = [] := by
  unfold Dsk.waiting; rw [h]; simp
theorem zero_flat (n : Nat) : Flat (Dsk.zero n) := rfl
/-- Its head is none, or empty. -/
def Calm (D : Dsk) : Prop := D.image[0]? = some zsec ∨ D.image[0]? = some (headB [])
theorem zero_calm {n : Nat} (h : 0 < n) : Calm (Dsk.zero n) := .inl (zero_image h)
end Go.Proofs.YtienelpepioggaaGreat

/- A cache of pages in plain words. -/
namespace Go.Proofs.YtienelpepioggaaGreat
open Go
structure Csh where
  D : Dsk
  size : Nat
  most : Nat
  q : Nat → Option (List UInt8)
  row : List Nat
/-- How many pages, how many a group takes. -/
def Csh.N (c : Csh) : Nat := c.D.first.length - c.size - 1
def Csh.cap (c : Csh) : Nat := min c.size 100
/-- The pages that were written, rising. -/
def Csh.dirty (c : Csh) : List Nat := keysQ c.N c.q
def Csh.dirtyL (c : Csh) : List (Nat × List UInt8) := c.dirty.map fun n => (n, (c.q n).getD [])
structure Csh.Ok (c : Csh) : Prop where
  ok : c.D.Ok
  s1 : 1 ≤ c.size
  s2 : c.size + 2 ≤ c.D.first.length
  m1 : 1 ≤ c.most
  m2 : c.most ≤ 64
  q : ∀ n b, c.q n = some b → n < c.N ∧ b.length = 512
  room : c.dirty.length ≤ c.cap
  nodup : c.row.Nodup
  few : c.row.length ≤ c.most
  row : ∀ n ∈ c.row, n < c.N ∧ c.q n = none
  flat : Flat c.D
  calm : Calm c.D
def touch (row : List Nat) (n most : Nat) : List Nat :=
  let r := row.filter (fun k => decide (k ≠ n)) ++ [n]
  if most < r.length then r.drop 1 else r
def Csh.page (c : Csh) (n : Nat) : List UInt8 := (c.q n).getD (c.D.image.getD (c.size + 1 + n) [])
def Csh.read (c : Csh) (n : Nat) : Csh := if (c.q n).isSome then c else { c with row := touch c.row n c.most }
def Csh.write (c : Csh) (n : Nat) (b : List UInt8) : Csh := { c with q := qput c.q n b, row := c.row.filter fun k => decide (k ≠ n) }
def Csh.commit (c : Csh) : Csh := { c with D := if c.dirty = [] then c.D else grouped c.size c.D c.dirtyL, q := fun _ => none }
def Csh.abort (c : Csh) : Csh := { c with q := fun _ => none }
/-- What Write answers. -/
def Csh.wcode (c : Csh) (n : Int) (len : Nat) : Int :=
  if n < 0 ∨ (c.N : Int) ≤ n then 2 else if len ≠ 512 then 3 else if c.q n.toNat = none ∧ c.cap ≤ c.dirty.length then 7 else 0
section
variable {c : Csh}
theorem Csh.dirtyL_fst : c.dirtyL.map (·.1) = c.dirty := by
  rw [Csh.dirtyL, List.map_map]
  exact List.map_id' _
theorem Csh.dirtyL_length : c.dirtyL.length = c.dirty.length := by simp [Csh.dirtyL]
theorem Csh.mem_dirtyL (h : c.Ok) {n : Nat} {b : List UInt8} : (n, b) ∈ c.dirtyL ↔ c.q n = some b := by
  simp only [Csh.dirtyL, List.mem_map, Csh.dirty, Prod.mk.injEq]
  constructor
  · rintro ⟨m, hm, rfl, rfl⟩
    obtain ⟨_, b, hb⟩ := mem_keysQ.1 hm
    rw [hb]; rfl
  · intro hb
    exact ⟨n, mem_keysQ.2 ⟨(h.q n b hb).1, b, hb⟩, rfl, by rw [hb]; rfl⟩
/-- The pages as they are handed in, in whatever order. -/
def Csh.group (c : Csh) (ps : List Pg) : Prop := ps.Perm (c.dirtyL.map fun p => ((p.1 : Int), p.2))
theorem Csh.group_len {ps : List Pg} (h : c.group ps) : ps.length = c.dirty.length := by
  rw [List.Perm.length_eq h, List.length_map, Csh.dirtyL_length]
theorem Csh.group_mem {ps : List Pg} (hc : c.Ok) (h : c.group ps) {p : Pg} : p ∈ ps ↔ ∃ n b, c.q n = some b ∧ p = ((n : Int), b) := by
  rw [List.Perm.mem_iff h, List.mem_map]
  constructor
  · rintro ⟨⟨n, b⟩, hm, rfl⟩
    exact ⟨n, b, (Csh.mem_dirtyL hc).1 hm, rfl⟩
  · rintro ⟨n, b, hq, rfl⟩
    exact ⟨(n, b), (Csh.mem_dirtyL hc).2 hq, rfl⟩
theorem Csh.group_code {ps : List Pg} (hc : c.Ok) (h : c.group ps) : ccode c.D.first.length c.size ps = 0 ∧ cdone c.size c.D ps = c.commit.D := by
  have hl := Csh.group_len h
  have hroom := hc.room
  by_cases hne : ps = []
  · have hd : c.dirty = [] := List.eq_nil_of_length_eq_zero (by rw [← hl, hne]; rfl)
    exact ⟨by simp [ccode, hne], by simp [cdone, hne, Csh.commit, hd]⟩
  have hany : ¬ anyOut (c.D.first.length - c.size - 1) ps := by
    rintro ⟨p, hp, ho⟩
    obtain ⟨n, b, hq, rfl⟩ := (Csh.group_mem hc h).1 hp
    have := (hc.q n b hq).1
    simp only [outOf, Csh.N] at ho this; omega
  have h0 := anyOut_nonneg hany
  have hnd : (ps.map (·.1)).Nodup := by
    refine (List.Perm.nodup_iff (List.Perm.map _ h)).2 ?_
    rw [List.map_map]
    have h1 : (c.dirtyL.map (·.1)).Pairwise (· < ·) := by rw [Csh.dirtyL_fst]; exact keysQ_rise _ _
    rw [List.pairwise_map] at h1
    unfold List.Nodup
    rw [List.pairwise_map]
    exact h1.imp (fun hab => by simp only [Function.comp]; omega)
  have hgood : goodP ps := ⟨hnd, fun p hp => by
    obtain ⟨n, b, hq, rfl⟩ := (Csh.group_mem hc h).1 hp
    exact (hc.q n b hq).2⟩
  have hcap : ¬ (min c.size 100 < ps.length) := by rw [hl]; simp only [Csh.cap] at hroom; omega
  have hcode : ccode c.D.first.length c.size ps = 0 := by simp [ccode, hne, hcap, hany, hgood]
  refine ⟨hcode, ?_⟩
  have hd : c.dirty ≠ [] := fun hd => hne (List.eq_nil_of_length_eq_zero (by rw [hl, hd]; rfl))
  have hs : c.dirtyL = sortP ps := sortP_unique hnd h0 (by rw [Csh.dirtyL_fst]; exact keysQ_rise _ _) (fun n b => by
    rw [Csh.mem_dirtyL hc, Csh.group_mem hc h]
    constructor
    · exact fun hq => ⟨n, b, hq, rfl⟩
    · rintro ⟨n', b', hq, he⟩
      simp only [Prod.mk.injEq] at he
      obtain ⟨h1, rfl⟩ := he
      have : n = n' := by omega
      subst this; exact hq)
  rw [cdone_ok rfl hcode hne, ← hs]
  simp [Csh.commit, hd]
theorem Csh.commit_first : c.commit.D.first = c.D.first := by
  simp only [Csh.commit]
  split
  · rfl
  · exact grouped_first _ _ _
theorem Csh.Ok.commit (h : c.Ok) (hok : c.commit.D.Ok) : c.commit.Ok := by
  have hf := Csh.commit_first (c := c)
  have hN : c.commit.N = c.N := by simp only [Csh.N, hf]; rfl
  have hdd : c.commit.dirty = [] := keysQ_none _
  refine ⟨hok, h.s1, by rw [hf]; exact h.s2, h.m1, h.m2, fun n b hb => (by cases hb), by rw [hdd]; exact Nat.zero_le _, h.nodup, h.few, fun n hn => ⟨by rw [hN]; exact (h.row n hn).1, rfl⟩, ?_, ?_⟩
  · simp only [Csh.commit]
    split
    · exact h.flat
    · rw [grouped_eq]; exact Dsk.wait_fl _
  · simp only [Csh.commit]
    split
    · exact h.calm
    · exact .inr (grouped_head h.ok.some)
theorem Csh.Ok.abort (h : c.Ok) : c.abort.Ok :=
  ⟨h.ok, h.s1, h.s2, h.m1, h.m2, fun n b hb => (by cases hb), by rw [show c.abort.dirty = [] from keysQ_none _]; exact Nat.zero_le _, h.nodup, h.few, fun n hn => ⟨(h.row n hn).1, rfl⟩, h.flat, h.calm⟩
theorem filter_ne_mem {l : List Nat} {n k : Nat} : k ∈ l.filter (fun k => decide (k ≠ n)) ↔ k ∈ l ∧ k ≠ n := by simp
theorem touch_nodup {row : List Nat} {n most : Nat} (h : row.Nodup) : (touch row n most).Nodup := by
  have h1 : (row.filter (fun k => decide (k ≠ n)) ++ [n]).Nodup := by
    rw [List.nodup_append]
    exact ⟨h.sublist (List.filter_sublist ..), by simp, fun a ha b hb => by simp at hb; subst hb; exact (filter_ne_mem.1 ha).2⟩
  unfold touch
  simp only
  split
  · exact h1.sublist (List.drop_sublist ..)
  · exact h1
theorem touch_mem {row : List Nat} {n most k : Nat} (h : k ∈ touch row n most) : k ∈ row ∨ k = n := by
  have h1 : k ∈ row.filter (fun k => decide (k ≠ n)) ++ [n] := by
    unfold touch at h
    simp only at h
    split at h
    · exact List.mem_of_mem_drop h
    · exact h
  rcases List.mem_append.1 h1 with h2 | h2
  · exact .inl (filter_ne_mem.1 h2).1
  · simp at h2; exact .inr h2
theorem touch_few {row : List Nat} {n most : Nat} (h : row.length ≤ most) (hm : 1 ≤ most) : (touch row n most).length ≤ most := by
  have h1 := List.length_filter_le (fun k => decide (k ≠ n)) row
  unfold touch
  simp only
  split
  · rw [List.length_drop, List.length_append, List.length_singleton]; omega
  · omega
theorem Csh.Ok.read (h : c.Ok) {n : Nat} (hn : n < c.N) : (c.read n).Ok := by
  unfold Csh.read
  by_cases hq : (c.q n).isSome
  · rw [if_pos hq]; exact h
  · rw [if_neg hq]
    have hqn : c.q n = none := by simpa using hq
    exact ⟨h.ok, h.s1, h.s2, h.m1, h.m2, h.q, h.room, touch_nodup h.nodup, touch_few h.few h.m1, fun k hk => by
      rcases touch_mem hk with hk | rfl
      · exact h.row k hk
      · exact ⟨hn, hqn⟩, h.flat, h.calm⟩
theorem keysQ_put {N n : Nat} {q : Nat → Option (List UInt8)} {b : List UInt8} (hn : n < N) : (keysQ N (qput q n b)).length = (keysQ N q).length + if (q n).isSome then 0 else 1 := by
  have hp : (keysQ N (qput q n b)).Perm (if (q n).isSome then keysQ N q else n :: keysQ N q) := by
    refine (List.perm_ext_iff_of_nodup (nodup_lt (keysQ_rise _ _)) ?_).2 fun k => ?_
    · split
      · exact nodup_lt (keysQ_rise _ _)
      · rename_i h
        refine List.nodup_cons.2 ⟨fun hm => h ?_, nodup_lt (keysQ_rise _ _)⟩
        obtain ⟨_, b', hb'⟩ := mem_keysQ.1 hm
        rw [hb']; rfl
    · rw [mem_keysQ]
      by_cases hs : (q n).isSome
      · rw [if_pos hs, mem_keysQ]
        obtain ⟨b0, hb0⟩ := Option.isSome_iff_exists.1 hs
        unfold qput
        by_cases hk : k = n
        · subst hk; simp [hb0]
        · simp [hk]
      · rw [if_neg hs, List.mem_cons, mem_keysQ]
        unfold qput
        by_cases hk : k = n
        · subst hk; simp [hn]
        · simp [hk]
  rw [hp.length_eq]
  split <;> simp
theorem Csh.Ok.write (h : c.Ok) {n : Nat} {b : List UInt8} (hw : c.wcode n b.length = 0) : (c.write n b).Ok := by
  have hw' : n < c.N ∧ b.length = 512 ∧ ¬ (c.q n = none ∧ c.cap ≤ c.dirty.length) := by
    unfold Csh.wcode at hw
    split at hw
    · cases hw
    · split at hw
      · cases hw
      · split at hw
        · cases hw
        · rename_i h1 h2 h3
          exact ⟨by omega, by omega, by simpa using h3⟩
  obtain ⟨hn, hb, hr⟩ := hw'
  refine ⟨h.ok, h.s1, h.s2, h.m1, h.m2, fun k b' hk => ?_, ?_, h.nodup.sublist (List.filter_sublist ..), Nat.le_trans (List.length_filter_le ..) h.few, fun k hk => ?_, h.flat, h.calm⟩
  · simp only [Csh.write, qput] at hk
    split at hk
    · rename_i hkn; subst hkn; cases hk; exact ⟨hn, hb⟩
    · exact h.q k b' hk
  · show (keysQ c.N (qput c.q n b)).length ≤ c.cap
    rw [keysQ_put hn]
    have := h.room
    by_cases hs : (c.q n).isSome
    · rw [if_pos hs]; simpa [Csh.dirty] using this
    · rw [if_neg hs]
      have hqn : c.q n = none := by simpa using hs
      have h1 : ¬ (c.cap ≤ c.dirty.length) := fun h2 => hr ⟨hqn, h2⟩
      simp only [Csh.dirty] at h1; omega
  · obtain ⟨h1, h2⟩ := filter_ne_mem.1 hk
    refine ⟨(h.row k h1).1, ?_⟩
    simp only [Csh.write, qput, if_neg h2]
    exact (h.row k h1).2
end
end Go.Proofs.YtienelpepioggaaGreat

/- A cache in memory. -/
namespace Go.Proofs.YtienelpepioggaaGreat
open Go
set_option linter.unusedSimpArgs false
open Go.RowKit (intOf)
section
variable {G G' : Gh} {κ μ m x : Nat} {w w' : World} {q : Nat → Option (List UInt8)}
/-- It stands, when another block of the same owner has changed. -/
theorem BMap.keep1 (h : BMap G μ w m q) (hk : Keep (fun b => b = x) w w') (hne : m ≠ x) (ho : G.own x = μ) (hf : G.fix x = 0) : BMap G μ w' m q := by
  obtain ⟨es, clk, h1, h2, h3, h4, h5⟩ := h
  exact ⟨es, clk, hk.heap h1 hne, h2, h3, h4, h5.ext (Ext.on0 hk ho hf)⟩
/-- It stands, when its own block has not changed. -/
theorem BMap.move {K : Nat → Prop} (h : BMap G μ w m q) (hx : Ext K G w G' w') (hh : w'.heap[m]? = w.heap[m]?) (ho : G'.own m = G.own m) (hf : G'.fix m = G.fix m) : BMap G' μ w' m q := by
  obtain ⟨es, clk, h1, h2, h3, h4, h5⟩ := h
  exact ⟨es, clk, hh.trans h1, ho.trans h2, hf.trans h3, h4, h5.ext hx⟩
end
theorem HasZ.held {G : Gh} {κ : Nat} {w : World} {v : Value} {l : List UInt8} (h : HasZ G w v l) (hκ : κ ≠ 0) : Held G κ w v (bs l) := ⟨h.1.1, fun b hb hne => ⟨(h.2 b hb hne).1, by rw [(h.2 b hb hne).2]; exact hκ.symm⟩⟩
theorem own_Z {B n : Nat} {t : TypeId} {G : Gh} {w : World} {u : Value} {l : List UInt8} (ho : w.ownsRow B t 1 u n (bs l)) (hG : ∀ b, B ≤ b → maxLen ≤ G.fix b ∧ G.own b = 0) : HasZ G w u l :=
  ⟨own_fix ho (fun b hb => (hG b hb).1), fun b hb _ => by
    obtain ⟨h1, h2⟩ := World.ownsRow.lt ho b hb
    exact ⟨h2, (hG b h1).2⟩⟩
/-- Numbers in a row of the cache's own. -/
def RowI (G : Gh) (μ : Nat) (w : World) (v : Value) (l : List Nat) : Prop := w.ownsRow 0 3 1 v l.length (ints (zs l)) ∧ ∀ b, v.ownBlock = some b → G.own b = μ ∧ G.fix b = 0
theorem RowI.ext {K : Nat → Prop} {G G' : Gh} {μ : Nat} {w w' : World} {v : Value} {l : List Nat} (h : RowI G μ w v l) (hx : Ext K G w G' w') (hk : ¬ K μ) : RowI G' μ w' v l := by
  refine ⟨own_keep h.1 hx.keep (fun b hb => by rw [(h.2 b hb).1]; exact hk), fun b hb => ?_⟩
  have hlt := (World.ownsRow.lt h.1 b hb).2
  rw [hx.own b hlt, hx.fixe b hlt (by rw [(h.2 b hb).1]; exact hk)]
  exact h.2 b hb
theorem RowI.keep1 {x : Nat} {G : Gh} {μ : Nat} {w w' : World} {v : Value} {l : List Nat} (h : RowI G μ w v l) (hk : Keep (fun b => b = x) w w') (hne : v.ownBlock ≠ some x) : RowI G μ w' v l :=
  ⟨own_keep h.1 hk (fun b hb hbx => hne (by rw [hb, hbx])), h.2⟩
theorem RowI.ne {G : Gh} {μ : Nat} {w : World} {v : Value} {l : List Nat} (h : RowI G μ w v l) {b : Nat} {o : Obj} (hb : w.heap[b]? = some o) (ho : ∀ c t f, o = .cells c t f → t ≠ 3) : v.ownBlock ≠ some b := by
  intro hc
  obtain ⟨_, ⟨rfl, _⟩ | ⟨g, cap, cur, rfl, _, h3, _⟩⟩ := h.1
  · simp [Value.ownBlock] at hc
  · simp [Value.ownBlock] at hc
    subst hc
    rw [h3] at hb; cases hb
    exact ho _ _ _ rfl rfl
theorem RowI.has {G : Gh} {μ : Nat} {w : World} {v : Value} {l : List Nat} (h : RowI G μ w v l) : HasI w v (zs l) := Has.own h.1
/-- The cache's parts: the log, what was written, what is clean, the row. -/
structure CacheM (G : Gh) (κ μ : Nat) (w : World) (p lq size came : Nat) (D : Dsk) (most : Nat) (q cq : Nat → Option (List UInt8)) (row : List Nat) : Prop where
  ne : κ ≠ μ
  ne0 : μ ≠ 0
  few : row.length ≤ 65
  log : LogAt G κ w lq size came D
  at_ : ∃ dm cm rv, w.heap[p]? = some (.cells #[.pointer (some ⟨lq, 0, none⟩), .int .i64 most, .map (some dm), .map (some cm), rv] 66 (0, 0)) ∧ G.own p = μ ∧ G.fix p = 0 ∧ dm ≠ cm ∧ BMap G μ w dm q ∧ BMap G μ w cm cq ∧ RowI G μ w rv row
section
variable {G G' : Gh} {κ μ p lq size came most : Nat} {w w' : World} {D : Dsk} {q cq : Nat → Option (List UInt8)} {row : List Nat}
theorem CacheM.ext {K : Nat → Prop} (h : CacheM G κ μ w p lq size came D most q cq row) (hx : Ext K G w G' w') (hk : ¬ K κ) (hm : ¬ K μ) (h0 : ¬ K 0) : CacheM G' κ μ w' p lq size came D most q cq row := by
  obtain ⟨h1, h2, h3, h4, dm, cm, rv, h5, h6, h7, h8, h9, h10, h11⟩ := h
  have hlt := hx.lt h5
  exact ⟨h1, h2, h3, h4.ext hx hk h0, dm, cm, rv, hx.heap h5 (by rw [h6]; exact hm), by rw [hx.own p hlt]; exact h6, by rw [hx.fixe p hlt (by rw [h6]; exact hm)]; exact h7, h8, h9.ext hx hm, h10.ext hx hm, h11.ext hx hm⟩
theorem CacheM.grow (h : CacheM G κ μ w p lq size came D most q cq row) (hg : Grow w w') : CacheM G κ μ w' p lq size came D most q cq row := h.ext (K := fun _ => False) (.grow hg) id id id
/-- Another disk of the log. -/
theorem CacheM.put {D' : Dsk} (h : CacheM G κ μ w p lq size came D most q cq row) (hx : Ext (fun c => c = κ) G w G' w') (hl : LogAt G' κ w' lq size came D') : CacheM G' κ μ w' p lq size came D' most q cq row := by
  obtain ⟨h1, h2, h3, h4, dm, cm, rv, h5, h6, h7, h8, h9, h10, h11⟩ := h
  have hlt := hx.lt h5
  have hm : ¬ (μ = κ) := fun h => h1 h.symm
  exact ⟨h1, h2, h3, hl, dm, cm, rv, hx.heap h5 (by rw [h6]; exact hm), by rw [hx.own p hlt]; exact h6, by rw [hx.fixe p hlt (by rw [h6]; exact hm)]; exact h7, h8, h9.ext hx hm, h10.ext hx hm, h11.ext hx hm⟩
/-- What its block's cells are. -/
theorem CacheM.cells (h : CacheM G κ μ w p lq size came D most q cq row) : ∃ dm cm rv, ∀ {w'}, Grow w w' → w'.cell? ⟨p, 0, none⟩ = some (.pointer (some ⟨lq, 0, none⟩)) ∧ w'.cell? ⟨p, 1, none⟩ = some (.int .i64 most) ∧ w'.cell? ⟨p, 2, none⟩ = some (.map (some dm)) ∧ w'.cell? ⟨p, 3, none⟩ = some (.map (some cm)) ∧ w'.cell? ⟨p, 4, none⟩ = some rv ∧
    BMap G μ w' dm q ∧ BMap G μ w' cm cq ∧ RowI G μ w' rv row := by
  obtain ⟨h1, h2, h3, h4, dm, cm, rv, h5, h6, h7, h8, h9, h10, h11⟩ := h
  refine ⟨dm, cm, rv, fun hg => ?_⟩
  have h5' := hg.gheap h5
  exact ⟨by rw [cell_block h5']; rfl, by rw [cell_block h5']; rfl, by rw [cell_block h5']; rfl, by rw [cell_block h5']; rfl, by rw [cell_block h5']; rfl, h9.grow hg, h10.grow hg, h11.ext (K := fun _ => False) (.grow hg) id⟩
/-- What is clean: the pages of the row, as the disk has them. -/
def cleanQ (D : Dsk) (size : Nat) (row : List Nat) : Nat → Option (List UInt8) := fun n => if n ∈ row then some (D.image.getD (size + 1 + n) []) else none
def CacheAt (G : Gh) (κ μ : Nat) (w : World) (p lq came : Nat) (c : Csh) : Prop := c.Ok ∧ CacheM G κ μ w p lq c.size came c.D c.most c.q (cleanQ c.D c.size c.row) c.row
theorem CacheAt.ext {K : Nat → Prop} {c : Csh} (h : CacheAt G κ μ w p lq came c) (hx : Ext K G w G' w') (hk : ¬ K κ) (hm : ¬ K μ) (h0 : ¬ K 0) : CacheAt G' κ μ w' p lq came c := ⟨h.1, h.2.ext hx hk hm h0⟩
theorem CacheAt.grow {c : Csh} (h : CacheAt G κ μ w p lq came c) (hg : Grow w w') : CacheAt G κ μ w' p lq came c := ⟨h.1, h.2.grow hg⟩
end
theorem cleanQ_del (D : Dsk) (size : Nat) (row : List Nat) (n : Nat) : qdel (cleanQ D size row) n = cleanQ D size (row.filter fun k => decide (k ≠ n)) := by
  funext k
  unfold qdel cleanQ
  by_cases hk : k = n
  · subst hk; simp
  · simp [hk]
theorem cleanQ_put (D : Dsk) (size : Nat) (row : List Nat) (n : Nat) : qput (cleanQ D size row) n (D.image.getD (size + 1 + n) []) = cleanQ D size (row ++ [n]) := by
  funext k
  unfold qput cleanQ
  by_cases hk : k = n
  · subst hk; simp
  · simp [hk]
end Go.Proofs.YtienelpepioggaaGreat

/- A number is let go from a row of the cache's own. -/
namespace Go.Proofs.YtienelpepioggaaGreat
open Go
set_option linter.unusedSimpArgs false
open Go.RowKit (intOf)
section rules
variable {P : Program} {k : Kont} {e : Env} {w : World} {l : List GOp} {d : Option Nat}
/-- clear, upon a part of a block. -/
theorem clearS_rule {x : Operand} {t el ty : TypeId} {bytes g o n c : Nat} {z : Value} {cur : Array Value} (he : ElemIs P t el 1 bytes z) (hx : ev e x = .slice (some ⟨g, o, none⟩) n c) (hb : w.heap[g]? = some (.cells cur el (0, 0))) (hn : 0 < n) (ho : o + n ≤ cur.size) (hz : isCell z = true)
    (h : ∀ w', Keep (fun b => b = g) w w' → w'.heap[g]? = some (.cells (cur.toList.take o ++ List.replicate n z ++ cur.toList.drop (o + n)).toArray el (0, 0)) → R (symOps P l k (updO e d (.tuple #[])) w')) :
    R (symOps P (⟨d, .hard (H (.call { callee := .builtin .clear, args := #[x], argTypes := #[t] }) ty), none⟩ :: l) k e w) := by
  obtain ⟨i, hi, hzz, hsz, hby⟩ := he.hi
  have hzc : (Builtin.zeroCells z.cells n).toList = List.replicate n z := by
    rw [isCell_cells hz]
    simp [Builtin.zeroCells]
    apply List.ext_getElem
    · simp
    · intro j h1 h2
      simp [Nat.mod_one]
  have hst := run_storeCells_at (P := P) g o el (List.replicate n z) 0 cur w hb (by simpa using ho) (fun v hv => by rw [List.eq_of_mem_replicate hv]; exact isCell_one hz)
  simp only [Nat.add_zero, List.length_replicate] at hst
  have hrr := setRow_heap w g cur ((List.take o cur.toList ++ List.replicate n z ++ List.drop (o + n) cur.toList).toArray) el (0, 0) hb
  have hkk : Keep (fun b => b = g) w (w.setRow g ((List.take o cur.toList ++ List.replicate n z ++ List.drop (o + n) cur.toList).toArray)) := ⟨rfl, rfl, rfl, by simp, fun k _ hk => setRow_other w g k _ hk⟩
  generalize w.setRow g ((List.take o cur.toList ++ List.replicate n z ++ List.drop (o + n) cur.toList).toArray) = w' at hst hrr hkk
  obtain ⟨m, rfl⟩ : ∃ m, n = m + 1 := ⟨n - 1, by omega⟩
  have hzv : ∀ w0, (zeroValue el).run P w0 = .ok z w0 := fun w0 => run_zeroValue w0 (by rw [hi]; exact hzz)
  exact hard_rule (run_builtin (vs := [.slice (some ⟨g, o, none⟩) (m + 1) c]) (by simp [hx]) (fun cs => by simp [builtin, Builtin.clear_, run_underlying he.ht, hzv, hzc, hst])) (h w' hkk hrr)
end rules
theorem enterDp {Φ : Value → World → Prop} {Ψ : List PanicEntry → World → Prop} {w : World} (v0 v1 : Value) (h : symS 7 Tryz.prog F81 ⟨fun e w => Φ (oneOf [e 3]) w, fun _ _ _ => False, fun e w => Φ (oneOf [e 3]) w, Ψ⟩ (upd (upd env0 0 v0) 1 v1) w) : Calls Tryz.prog 81 #[v0, v1] w (Out Φ Ψ) :=
  calls_sym (args := [v0, v1]) 7 [3] Tryz.func81 (by kernel_rfl) (by kernel_rfl) (by decide) (by kernel_rfl) (by kernel_rfl) (by simp) F81_eq h
theorem dropC_spec {w : World} {B n k : Nat} (hB : w.cell? ⟨B, 0, none⟩ = some (.int .i64 n)) :
    Calls Tryz.prog 81 #[.int .i64 k, .pointer (some ⟨B, 0, none⟩)] w (Ret fun v w' => v = .bool (decide (k = n)) ∧ w' = w) := by
  apply enterDp
  apply R_in
  by_cases h : k = n
  · subst h
    simp (maxSteps := 1000000) (disch := omega) only [↓sy1, sy2, sy3, readOK, sy5, sy6, Nat.reduceEqDiff, ↓reduceIte, sy7, sy8, sy9, sya, oneOf, syb, syc, Nat.reduceAdd, Nat.reduceMul, syd, sye, syf, syg, syh, reduceCtorEq, F81, hB, decide_true]
    exact R_out trivial
  · simp (maxSteps := 1000000) (disch := omega) only [↓sy1, sy2, sy3, readOK, sy5, sy6, Nat.reduceEqDiff, ↓reduceIte, sy7, sy8, sy9, sya, oneOf, syb, syc, Nat.reduceAdd, Nat.reduceMul, syd, sye, syf, syg, syh, reduceCtorEq, F81, hB, show ¬ ((k : Int) = (n : Int)) from by omega, decide_false]
    exact R_out (by simp [h])
abbrev dropF (B : Nat) : Value := .func (.func 81) #[] #[.pointer (some ⟨B, 0, none⟩)]
theorem dropI_spec {w : World} {B n : Nat} {v : Value} {l : List Nat} (hB : w.cell? ⟨B, 0, none⟩ = some (.int .i64 n)) (hv : HasI w v (zs l)) (hl : l.length ≤ 65) :
    Calls Tryz.prog 90 #[v, dropF B] w (Ret fun r w' => ((n ∉ l ∧ r = .int .i64 (-1)) ∨ ∃ i : Nat, r = .int .i64 i ∧ i < l.length ∧ (∀ h : i < l.length, l[i] = n) ∧ n ∉ l.take i) ∧ w' = w) := by
  have hcl : callable Tryz.prog 81 = true := by kernel_rfl
  have hlen : ∀ w', lenF w' 0 v = some (.int .i64 l.length) := fun w' => by rw [hv.lenI]; simp
  apply enter90
  apply R_in
  simp (maxSteps := 1000000) (disch := omega) only [↓sy1, sy2, sy3, readOK, sy5, sy6, Nat.reduceEqDiff, ↓reduceIte, sy7, sy8, sy9, sya, oneOf, syb, syc, Nat.reduceAdd, Nat.reduceMul, syd, sye, syf, syg, syh, reduceCtorEq, F90, hlen]
  refine loop_rule (fun e w' => ∃ i : Nat, i ≤ l.length ∧ e 8 = .int .i64 i ∧ e 7 = .int .i64 l.length ∧ e 0 = v ∧ e 1 = dropF B ∧ n ∉ l.take i ∧ w' = w) (fun e _ => l.length - (intOf (e 8)).toNat)
    ⟨0, by omega, by simp [upd, updO, ev], by simp [upd, updO, ev], by simp [upd, updO, ev], by simp [upd, updO, ev], by simp, rfl⟩ ?_
  rintro e w1 ⟨i, hi, e8, e7, e0, e1, hno, rfl⟩
  by_cases hlt : i < l.length
  · obtain ⟨a, ha, hac, _⟩ := hv.getI (l := zs l) (i := i) (by simpa using hlt)
    have hz : (zs l)[i]'(by simpa using hlt) = ((l[i] : Nat) : Int) := by simp
    rw [hz] at hac
    simp (maxSteps := 1000000) (disch := omega) only [↓sy1, sy2, sy3, readOK, sy5, sy6, Nat.reduceEqDiff, ↓reduceIte, sy7, sy8, sy9, sya, oneOf, syb, syc, Nat.reduceAdd, Nat.reduceMul, syd, sye, syf, syg, syh, reduceCtorEq, F90_L0, e8, e7, e0, e1, Int.ofNat_lt, hlt, decide_true, ha, hac]
    refine fvalc_rule hcl (cs := [.pointer (some ⟨B, 0, none⟩)]) (by simp only [upd_at, Nat.reduceEqDiff, reduceIte, ev_tmp, ev_const, List.map_cons, List.map_nil, e1]) (vs := [.int .i64 ((l[i] : Nat) : Int)]) (by simp only [upd_at, Nat.reduceEqDiff, reduceIte, ev_tmp, ev_const, List.map_cons, List.map_nil]) (dropC_spec hB) ?_
    rintro _ w2 ⟨rfl, rfl⟩
    by_cases h5 : l[i] = n
    · simp (maxSteps := 1000000) (disch := omega) only [↓sy1, sy2, sy3, readOK, sy5, sy6, Nat.reduceEqDiff, ↓reduceIte, sy7, sy8, sy9, sya, oneOf, syb, syc, Nat.reduceAdd, Nat.reduceMul, syd, sye, syf, syg, syh, reduceCtorEq, e8, e7, e0, e1, h5, decide_true]
      exact R_out (.inr ⟨i, rfl, hlt, fun _ => h5, hno⟩)
    · simp (maxSteps := 1000000) (disch := omega) only [↓sy1, sy2, sy3, readOK, sy5, sy6, Nat.reduceEqDiff, ↓reduceIte, sy7, sy8, sy9, sya, oneOf, syb, syc, Nat.reduceAdd, Nat.reduceMul, syd, sye, syf, syg, syh, reduceCtorEq, e8, e7, e0, e1, h5, decide_false]
      refine R_out ⟨⟨i + 1, by omega, rfl, fun hc => ?_⟩, ?_⟩
      · rw [List.take_succ_eq_append_getElem hlt] at hc
        rcases List.mem_append.1 hc with hc | hc
        · exact hno hc
        · simp at hc; exact h5 hc.symm
      · simp only [intOf]; omega
  · have hie : i = l.length := by omega
    subst hie
    rw [List.take_length] at hno
    simp (maxSteps := 1000000) (disch := omega) only [↓sy1, sy2, sy3, readOK, sy5, sy6, Nat.reduceEqDiff, ↓reduceIte, sy7, sy8, sy9, sya, oneOf, syb, syc, Nat.reduceAdd, Nat.reduceMul, syd, sye, syf, syg, syh, reduceCtorEq, F90_L0, e8, e7, e0, e1, Int.ofNat_lt, hlt, decide_false]
    exact R_out (.inl hno)
theorem filter_no {l : List Nat} {n : Nat} (h : n ∉ l) : l.filter (fun k => decide (k ≠ n)) = l := by
  rw [List.filter_eq_self]
  intro a ha
  simp
  exact fun hc => h (hc ▸ ha)
theorem ints_z_append (a b : List Nat) : ints (zs (a ++ b)) = ints (zs a) ++ ints (zs b) := by simp [ints, zs]
/-- slices.DeleteFunc, upon a row of one's own. -/
theorem deleteF_spec {w : World} {B B0 n : Nat} {v : Value} {l : List Nat} (hB : w.cell? ⟨B, 0, none⟩ = some (.int .i64 n)) (hv : w.ownsRow B0 3 1 v l.length (ints (zs l))) (hvB : v.ownBlock ≠ some B) (hl : l.length ≤ 65) :
    Calls Tryz.prog 80 #[v, dropF B] w (Ret fun r w' => w'.ownsRow B0 3 1 r (l.filter fun k => decide (k ≠ n)).length (ints (zs (l.filter fun k => decide (k ≠ n)))) ∧ Keep (fun b => v.ownBlock = some b) w w' ∧ (∀ b, r.ownBlock = some b → v.ownBlock = some b)) := by
  have hcl : callable Tryz.prog 81 = true := by kernel_rfl
  have hlen : ∀ w', lenF w' 0 v = some (.int .i64 l.length) := fun w' => by rw [(Has.own hv).lenI]; simp
  apply enter80
  apply R_in
  simp (maxSteps := 1000000) (disch := omega) only [↓sy1, sy2, sy3, readOK, sy5, sy6, Nat.reduceEqDiff, ↓reduceIte, sy7, sy8, sy9, sya, oneOf, syb, syc, Nat.reduceAdd, Nat.reduceMul, syd, sye, syf, syg, syh, reduceCtorEq, F80]
  refine call0 (dropI_spec hB (Has.own hv) hl) ?_
  rintro r w1 ⟨⟨hno, rfl⟩ | ⟨i0, rfl, hi0, hli, hno⟩, rfl⟩
  · simp (maxSteps := 1000000) (disch := omega) only [↓sy1, sy2, sy3, readOK, sy5, sy6, Nat.reduceEqDiff, ↓reduceIte, sy7, sy8, sy9, sya, oneOf, syb, syc, Nat.reduceAdd, Nat.reduceMul, syd, sye, syf, syg, syh, reduceCtorEq, show ((-1 : Int) = -1) = True from by simp, decide_true]
    exact R_out ⟨by rw [filter_no hno]; exact hv, Keep.refl _ _⟩
  have hi1 : ¬ ((i0 : Int) = -1) := by omega
  simp (maxSteps := 1000000) (disch := omega) only [↓sy1, sy2, sy3, readOK, sy5, sy6, Nat.reduceEqDiff, ↓reduceIte, sy7, sy8, sy9, sya, oneOf, syb, syc, Nat.reduceAdd, Nat.reduceMul, syd, sye, syf, syg, syh, reduceCtorEq, hi1, decide_false]
  have hf0 : (l.take (i0 + 1)).filter (fun k => decide (k ≠ n)) = l.take i0 := by
    rw [List.take_succ_eq_append_getElem hi0, List.filter_append, filter_no hno, hli hi0]; simp
  refine loop_rule (fun e w' => ∃ (j : Nat) (M : List Nat), i0 < j ∧ j ≤ l.length ∧ e 6 = .int .i64 j ∧ e 5 = .int .i64 ((l.take j).filter fun k => decide (k ≠ n)).length ∧ e 0 = v ∧ e 1 = dropF B ∧ ((l.take j).filter fun k => decide (k ≠ n)).length + M.length = j ∧ 1 ≤ M.length ∧
      w'.ownsRow B0 3 1 v l.length (ints (zs ((l.take j).filter (fun k => decide (k ≠ n)) ++ M ++ l.drop j))) ∧ Keep (fun b => v.ownBlock = some b) w1 w') (fun e _ => l.length - (intOf (e 6)).toNat)
    ⟨i0 + 1, [n], by omega, by omega, by simp [upd, updO, ev], ?_, by simp [upd, updO, ev], by simp [upd, updO, ev], ?_, by simp, ?_, Keep.refl _ _⟩ ?_
  · rw [hf0, List.length_take, Nat.min_eq_left (by omega)]; simp [upd, updO, ev]
  · rw [hf0, List.length_take, Nat.min_eq_left (by omega)]; simp
  · rw [hf0]
    have : l.take i0 ++ [n] ++ l.drop (i0 + 1) = l := by
      rw [← hli hi0, ← List.take_succ_eq_append_getElem hi0, List.take_append_drop]
    rw [this]; exact hv
  rintro e w2 ⟨j, M, hij, hj, e6, e5, e0, e1, hfm, hm1, ho2, hk2⟩
  have hlf := List.length_filter_le (fun k => decide (k ≠ n)) (l.take j)
  have hB2 : w2.cell? ⟨B, 0, none⟩ = some (.int .i64 n) := hk2.cell hB hvB
  generalize hF : (l.take j).filter (fun k => decide (k ≠ n)) = F at e5 hfm ho2 hlf
  have hFl : F.length ≤ 65 := by rw [List.length_take] at hlf; omega
  by_cases hlt : j < l.length
  · have hdrop : l.drop j = l[j] :: l.drop (j + 1) := List.drop_eq_getElem_cons hlt
    have htake : (l.take (j + 1)).filter (fun k => decide (k ≠ n)) = F ++ [l[j]].filter (fun k => decide (k ≠ n)) := by
      rw [List.take_succ_eq_append_getElem hlt, List.filter_append, hF]
    have hlenX : (F ++ M ++ l.drop j).length = l.length := by simp; omega
    have hget : (F ++ M ++ l.drop j)[j]'(by omega) = l[j] := by
      rw [List.getElem_append_right (by simp; omega)]
      simp only [List.length_append, hfm, Nat.sub_self, hdrop, List.getElem_cons_zero]
    obtain ⟨a, ha, hac, _⟩ := (Has.own ho2).getI (l := zs (F ++ M ++ l.drop j)) (i := j) (by simp; omega)
    have hz : (zs (F ++ M ++ l.drop j))[j]'(by simp; omega) = ((l[j] : Nat) : Int) := by rw [← hget]; simp only [zs, List.getElem_map]
    rw [hz] at hac
    simp (maxSteps := 1000000) (disch := omega) only [↓sy1, sy2, sy3, readOK, sy5, sy6, Nat.reduceEqDiff, ↓reduceIte, sy7, sy8, sy9, sya, oneOf, syb, syc, Nat.reduceAdd, Nat.reduceMul, syd, sye, syf, syg, syh, reduceCtorEq, F80_L0, e6, e5, e0, e1, hlen, Int.ofNat_lt, hlt, decide_true, ha, hac]
    refine fvalc_rule hcl (cs := [.pointer (some ⟨B, 0, none⟩)]) (by simp only [upd_at, Nat.reduceEqDiff, reduceIte, ev_tmp, ev_const, List.map_cons, List.map_nil, e1]) (vs := [.int .i64 ((l[j] : Nat) : Int)]) (by simp only [upd_at, Nat.reduceEqDiff, reduceIte, ev_tmp, ev_const, List.map_cons, List.map_nil]) (dropC_spec hB2) ?_
    rintro _ w3 ⟨rfl, rfl⟩
    by_cases h5 : l[j] = n
    · simp (maxSteps := 1000000) (disch := omega) only [↓sy1, sy2, sy3, readOK, sy5, sy6, Nat.reduceEqDiff, ↓reduceIte, sy7, sy8, sy9, sya, oneOf, syb, syc, Nat.reduceAdd, Nat.reduceMul, syd, sye, syf, syg, syh, reduceCtorEq, e6, e5, e0, e1, h5, decide_true]
      have htake' : (l.take (j + 1)).filter (fun k => decide (k ≠ n)) = F := by rw [htake, h5]; simp
      refine R_out ⟨⟨j + 1, M ++ [l[j]], by omega, by omega, rfl, by rw [htake'], by rw [htake']; simp; omega, by simp, ?_, hk2⟩, ?_⟩
      · rw [htake']
        have : F ++ (M ++ [l[j]]) ++ l.drop (j + 1) = F ++ M ++ l.drop j := by rw [hdrop]; simp
        rw [this]; exact ho2
      · simp only [intOf]; omega
    · have htake' : (l.take (j + 1)).filter (fun k => decide (k ≠ n)) = F ++ [l[j]] := by rw [htake]; simp [h5]
      obtain ⟨m0, Mt, rfl⟩ : ∃ m0 Mt, M = m0 :: Mt := by
        cases M with
        | nil => simp at hm1
        | cons a b => exact ⟨a, b, rfl⟩
      obtain ⟨a2, w4, ha2, hst, ho4, hk4, _⟩ := own_store ho2 (i := F.length) (by omega) (u := .int .i64 ((l[j] : Nat) : Int)) rfl
      simp (maxSteps := 1000000) (disch := omega) only [↓sy1, sy2, sy3, readOK, sy5, sy6, Nat.reduceEqDiff, ↓reduceIte, sy7, sy8, sy9, sya, oneOf, syb, syc, Nat.reduceAdd, Nat.reduceMul, syd, sye, syf, syg, syh, reduceCtorEq, e6, e5, e0, e1, h5, decide_false, ha2, hst]
      refine R_out ⟨⟨j + 1, Mt ++ [l[j]], by omega, by omega, rfl, by rw [htake']; simp, by rw [htake']; simp at hfm ⊢; omega, by simp, ?_, hk2.trans hk4⟩, ?_⟩
      · rw [htake']
        have hset : (ints (zs (F ++ m0 :: Mt ++ l.drop j))).set F.length (.int .i64 ((l[j] : Nat) : Int)) = ints (zs (F ++ [l[j]] ++ (Mt ++ [l[j]]) ++ l.drop (j + 1))) := by
          rw [hdrop]
          simp only [ints, zs, List.map_append, List.map_cons, List.append_assoc, List.cons_append, List.nil_append, List.map_nil]
          rw [List.set_append_right _ _ (by simp)]
          simp
        rw [← hset]; exact ho4
      · simp only [intOf]; omega
  · have hje : j = l.length := by omega
    subst hje
    rw [List.take_length] at hF
    rw [List.drop_length, List.append_nil] at ho2
    obtain ⟨q1, ⟨_, q2⟩ | ⟨g, cap, cur, rfl, q2, q3, q4, q5, q6, q7⟩⟩ := ho2
    · omega
    · have hsl : slcF 1 (.slice (some ⟨g, 0, none⟩) l.length cap) (some (.int .i64 F.length)) none none = some (.slice (some ⟨g, F.length, none⟩) (l.length - F.length) (cap - F.length)) := by
        simp only [slcF, slcV, bndV]
        simp only [Option.isSome_none, Bool.false_eq_true, if_false]
        rw [if_pos ⟨by omega, by omega⟩]
        have : ¬ (cap = F.length) := by omega
        simp [add_lit, this]
      simp (maxSteps := 1000000) (disch := omega) only [↓sy1, sy2, sy3, readOK, sy5, sy6, Nat.reduceEqDiff, ↓reduceIte, sy7, sy8, sy9, sya, oneOf, syb, syc, Nat.reduceAdd, Nat.reduceMul, syd, sye, syf, syg, syh, reduceCtorEq, F80_L0, e6, e5, e0, e1, hlen, Int.ofNat_lt, hlt, decide_false, hsl]
      refine clearS_rule (g := g) (o := F.length) (n := l.length - F.length) (c := cap - F.length) elemI (by simp only [upd_at, Nat.reduceEqDiff, reduceIte, ev_tmp, ev_const, List.map_cons, List.map_nil]) q3 (by omega) (by omega) rfl ?_
      intro w3 hk3 hb3
      have ho3 : w3.ownsRow B0 3 1 (.slice (some ⟨g, 0, none⟩) F.length cap) F.length (ints (zs F)) := by
        refine ⟨by simp [ints, zs], .inr ⟨g, cap, _, rfl, q2, hb3, by omega, q5, ?_, ?_⟩⟩
        · simp; omega
        · have h1 : cur.toList.take F.length = ints (zs F) := by
            have h2 : (cur.toList.take (l.length * 1)).take F.length = ints (zs F) := by
              rw [q7, ints_z_append, List.take_left' (by simp [ints, zs])]
            rwa [List.take_take, Nat.min_eq_left (by omega)] at h2
          simp only [List.toList_toArray, Nat.mul_one]
          rw [h1, List.append_assoc, List.take_left' (by simp [ints, zs])]
      have hsl2 : slcF 1 (.slice (some ⟨g, 0, none⟩) l.length cap) none (some (.int .i64 F.length)) none = some (.slice (some ⟨g, 0, none⟩) F.length cap) := by
        simp only [slcF, slcV, bndV]
        rw [if_pos ⟨by omega, by omega⟩]
        simp [add_lit]
      simp (maxSteps := 1000000) (disch := omega) only [↓sy1, sy2, sy3, readOK, sy5, sy6, Nat.reduceEqDiff, ↓reduceIte, sy7, sy8, sy9, sya, oneOf, syb, syc, Nat.reduceAdd, Nat.reduceMul, syd, sye, syf, syg, syh, reduceCtorEq, e6, e5, e0, e1, hsl2]
      refine R_out ⟨by rw [hF]; exact ho3, hk2.trans (hk3.mono (fun b hb h => by subst h; rfl)), fun b hb => hb⟩
end Go.Proofs.YtienelpepioggaaGreat

/- A cache: a clean page is let go; its room, its log, what is told. -/
namespace Go.Proofs.YtienelpepioggaaGreat
open Go
set_option linter.unusedSimpArgs false
open Go.RowKit (intOf)
theorem underM : Tryz.prog.underlying 64 = some (.map 3 46) := by kernel_rfl
theorem underI : Tryz.prog.underlying 3 = some (.int .i64) := by kernel_rfl
theorem Ext.onS0 {S : Nat → Prop} {G : Gh} {w w' : World} {μ : Nat} (hk : Keep S w w') (ho : ∀ b, S b → G.own b = μ ∧ G.fix b = 0) : Ext (fun c => c = μ) G w G w' := by
  refine ⟨hk.os, hk.tape, hk.output, hk.size, fun _ _ => rfl, fun _ _ => Nat.le_refl _, fun _ _ _ => rfl, fun b hb hn => hk.blk b hb (fun h => hn (ho b h).1), fun b i v' hb hi hc => ?_⟩
  by_cases hv : S b
  · have := (ho b hv).2; omega
  · exact hk.cell hc hv
section
variable {G : Gh} {κ μ p lq size came most : Nat} {w : World} {D : Dsk} {q cq : Nat → Option (List UInt8)} {row : List Nat}
set_option maxHeartbeats 2000000 in
theorem drop_spec (h : CacheM G κ μ w p lq size came D most q cq row) (n : Nat) :
    Calls Tryz.prog 56 #[.pointer (some ⟨p, 0, none⟩), .int .i64 n] w (Ret fun _ w' => CacheM G κ μ w' p lq size came D most q (qdel cq n) (row.filter fun k => decide (k ≠ n)) ∧ Ext (fun c => c = μ) G w G w') := by
  obtain ⟨h1, h2, h3, h4, dm, cm, rv, h5, h6, h7, h8, h9, h10, h11⟩ := h
  have hrc := h11.has.isCell
  apply enter56
  apply R_in
  have hg1 : Grow w (w.alloc (.cells #[.int .i64 n] 3)) := (Keep.refl _ _).alloc _
  have hb1 := heap_alloc_new w (.cells #[.int .i64 n] 3)
  have hBne : rv.ownBlock ≠ some w.heap.size := fun hc => by have := (World.ownsRow.lt h11.1 _ hc).2; omega
  have hpB : p ≠ w.heap.size := by have := (Array.getElem?_eq_some_iff.1 h5).1; omega
  have hcmB : cm ≠ w.heap.size := by have := h10.lt; omega
  have hce : (Value.int .i64 (n : Int)).cells = #[.int .i64 n] := isCell_cells rfl
  have hp1 := hg1.gheap h5
  generalize hwa : w.alloc (.cells #[.int .i64 n] 3) = w1 at hg1 hb1 hp1
  have hc4 : w1.cell? ⟨p, 4, none⟩ = some rv := by rw [cell_block hp1]; rfl
  simp (maxSteps := 1000000) (disch := omega) only [↓sy1, sy2, sy3, readOK, sy5, sy6, Nat.reduceEqDiff, ↓reduceIte, sy7, sy8, sy9, sya, oneOf, syb, syc, Nat.reduceAdd, Nat.reduceMul, syd, sye, syf, syg, syh, reduceCtorEq, F56, hce, hwa, hc4]
  generalize w.heap.size = B at hb1 hBne hpB hcmB ⊢
  have hBc : w1.cell? ⟨B, 0, none⟩ = some (.int .i64 n) := by rw [cell_block hb1]; rfl
  have h11a := h11.ext (K := fun _ => False) (.grow hg1) id
  refine call0 (deleteF_spec hBc h11a.1 hBne h3) ?_
  rintro r w2 ⟨hr2, hk2, hrb⟩
  have hx2 : Ext (fun c => c = μ) G w1 G w2 := .onS0 hk2 (fun b hb => h11.2 b hb)
  have hp2 := hk2.heap hp1 (h11a.ne hp1 (fun c t f hc => by cases hc; decide))
  have hmapne : ∀ {m : Nat} {q : Nat → Option (List UInt8)}, BMap G μ w m q → rv.ownBlock ≠ some m := fun {m q} hm => by
    obtain ⟨es, clk, k1, _⟩ := hm
    exact h11.ne k1 (fun c t f hc => by cases hc)
  have h9b : BMap G μ w2 dm q := (h9.grow hg1).move hx2 (hk2.blk dm (h9.grow hg1).lt (hmapne h9)) rfl rfl
  have h10b : BMap G μ w2 cm cq := (h10.grow hg1).move hx2 (hk2.blk cm (h10.grow hg1).lt (hmapne h10)) rfl rfl
  have h4b : LogAt G κ w2 lq size came D := (h4.grow hg1).ext hx2 h1 (fun h => h2 h.symm)
  have hrc2 : isCell r = true := (Has.own hr2).isCell
  obtain ⟨w3, hst, hp3, hk3⟩ := cell_store hp2 (i := 4) (by simp) (u := r) hrc2
  have hp3' : w3.heap[p]? = some (.cells #[.pointer (some ⟨lq, 0, none⟩), .int .i64 most, .map (some dm), .map (some cm), r] 66 (0, 0)) := by simpa using hp3
  have hx3 : Ext (fun c => c = μ) G w2 G w3 := .on0 hk3 h6 h7
  have hrow2 : RowI G μ w2 r (row.filter fun k => decide (k ≠ n)) := ⟨hr2, fun b hb => h11.2 b (hrb b hb)⟩
  have hpm : ∀ {m : Nat} {q : Nat → Option (List UInt8)}, BMap G μ w2 m q → m ≠ p := fun {m q} hm hc => by
    obtain ⟨es, clk, k1, _⟩ := hm
    rw [hc, hp2] at k1; cases k1
  have h9c := h9b.keep1 hk3 (hpm h9b) h6 h7
  have h10c := h10b.keep1 hk3 (hpm h10b) h6 h7
  have h4c := h4b.ext hx3 h1 (fun h => h2 h.symm)
  have hrow3 := hrow2.keep1 hk3 (hrow2.ne hp2 (fun c t f hc => by cases hc; decide))
  have hBc3 : w3.cell? ⟨B, 0, none⟩ = some (.int .i64 n) := hk3.cell (hk2.cell hBc hBne) (fun hc => hpB hc.symm)
  simp (maxSteps := 1000000) (disch := omega) only [↓sy1, sy2, sy3, readOK, sy5, sy6, Nat.reduceEqDiff, ↓reduceIte, sy7, sy8, sy9, sya, oneOf, syb, syc, Nat.reduceAdd, Nat.reduceMul, syd, sye, syf, syg, syh, reduceCtorEq, hst]
  refine draw56_0 (fun _ => False) ?_
  have hgd : Grow w3 w3.drew := (Keep.refl _ _).drew
  generalize w3.drew = w4 at hgd ⊢
  have hp4 := hgd.gheap hp3'
  have hc3 : w4.cell? ⟨p, 3, none⟩ = some (.map (some cm)) := by rw [cell_block hp4]; rfl
  have hBc4 := hgd.gcell hBc3
  simp (maxSteps := 1000000) (disch := omega) only [↓sy1, sy2, sy3, readOK, sy5, sy6, Nat.reduceEqDiff, ↓reduceIte, sy7, sy8, sy9, sya, oneOf, syb, syc, Nat.reduceAdd, Nat.reduceMul, syd, sye, syf, syg, syh, reduceCtorEq, PL56_0, hc3, hBc4]
  refine (h10c.grow hgd).del (n := n) (by simp only [upd_at, Nat.reduceEqDiff, reduceIte, ev_tmp, ev_const, List.map_cons, List.map_nil]) (by simp only [upd_at, Nat.reduceEqDiff, reduceIte, ev_tmp, ev_const, List.map_cons, List.map_nil]) underM underI (fun w5 hx5 hk5 h10d => ?_)
  have hpcm : p ≠ cm := fun hc => hpm h10b hc.symm
  have h9d := (h9c.grow hgd).keep1 hk5 h8 (by obtain ⟨es, clk, _, k2, _⟩ := h10c; exact k2) (by obtain ⟨es, clk, _, _, k3, _⟩ := h10c; exact k3)
  have hrow5 : RowI G μ w5 r (row.filter fun k => decide (k ≠ n)) := (hrow3.ext (K := fun _ => False) (.grow hgd) id).keep1 hk5 (by
    obtain ⟨es, clk, k1, _⟩ := h10c.grow hgd
    exact (hrow3.ext (K := fun _ => False) (.grow hgd) id).ne k1 (fun c t f hc => by cases hc))
  have hlf := List.length_filter_le (fun k => decide (k ≠ n)) row
  simp (maxSteps := 1000000) (disch := omega) only [↓sy1, sy2, sy3, readOK, sy5, sy6, Nat.reduceEqDiff, ↓reduceIte, sy7, sy8, sy9, sya, oneOf, syb, syc, Nat.reduceAdd, Nat.reduceMul, syd, sye, syf, syg, syh, reduceCtorEq]
  exact R_out ⟨⟨h1, h2, by omega, (h4c.grow hgd).ext hx5 h1 (fun h => h2 h.symm), dm, cm, r, hk5.heap hp4 hpcm, h6, h7, h8, h9d, h10d, hrow5⟩, (Ext.grow hg1).trans (hx2.trans (hx3.trans ((Ext.grow hgd).trans hx5)))⟩
/-- A page's number is looked at. -/
theorem look_okC (h : CacheM G κ μ w p lq size came D most q cq row) {n : Nat} (hn : n < D.first.length - size - 1) :
    Calls Tryz.prog 54 #[.pointer (some ⟨p, 0, none⟩), .int .i64 n] w (Ret fun v w' => v = .int .i64 0 ∧ Grow w w') := by
  obtain ⟨dm, cm, rv, hc⟩ := h.cells
  apply enter54
  apply R_in
  simp (maxSteps := 1000000) (disch := omega) only [↓sy1, sy2, sy3, readOK, sy5, sy6, Nat.reduceEqDiff, ↓reduceIte, sy7, sy8, sy9, sya, oneOf, syb, syc, Nat.reduceAdd, Nat.reduceMul, syd, sye, syf, syg, syh, reduceCtorEq, F54, show ¬ ((n : Int) < 0) from by omega, decide_false, (hc (Keep.refl _ _)).1]
  refine call0 (pages_spec h.log) ?_
  rintro _ w1 ⟨rfl, hg1⟩
  simp (maxSteps := 1000000) (disch := omega) only [↓sy1, sy2, sy3, readOK, sy5, sy6, Nat.reduceEqDiff, ↓reduceIte, sy7, sy8, sy9, sya, oneOf, syb, syc, Nat.reduceAdd, Nat.reduceMul, syd, sye, syf, syg, syh, reduceCtorEq, show ¬ (((D.first.length - size - 1 : Nat) : Int) ≤ (n : Int)) from by omega, decide_false]
  exact R_out hg1
theorem look_badC (h : CacheM G κ μ w p lq size came D most q cq row) {n : Int} (hn : n < 0 ∨ ((D.first.length - size - 1 : Nat) : Int) ≤ n) :
    Calls Tryz.prog 54 #[.pointer (some ⟨p, 0, none⟩), .int .i64 n] w (Ret fun v w' => v = .int .i64 2 ∧ Grow w w') := by
  obtain ⟨dm, cm, rv, hc⟩ := h.cells
  apply enter54
  apply R_in
  by_cases h0 : n < 0
  · simp (maxSteps := 1000000) (disch := omega) only [↓sy1, sy2, sy3, readOK, sy5, sy6, Nat.reduceEqDiff, ↓reduceIte, sy7, sy8, sy9, sya, oneOf, syb, syc, Nat.reduceAdd, Nat.reduceMul, syd, sye, syf, syg, syh, reduceCtorEq, F54, h0, decide_true]
    exact R_out (Keep.refl _ _)
  · simp (maxSteps := 1000000) (disch := omega) only [↓sy1, sy2, sy3, readOK, sy5, sy6, Nat.reduceEqDiff, ↓reduceIte, sy7, sy8, sy9, sya, oneOf, syb, syc, Nat.reduceAdd, Nat.reduceMul, syd, sye, syf, syg, syh, reduceCtorEq, F54, h0, decide_false, (hc (Keep.refl _ _)).1]
    refine call0 (pages_spec h.log) ?_
    rintro _ w1 ⟨rfl, hg1⟩
    simp (maxSteps := 1000000) (disch := omega) only [↓sy1, sy2, sy3, readOK, sy5, sy6, Nat.reduceEqDiff, ↓reduceIte, sy7, sy8, sy9, sya, oneOf, syb, syc, Nat.reduceAdd, Nat.reduceMul, syd, sye, syf, syg, syh, reduceCtorEq, show (((D.first.length - size - 1 : Nat) : Int) ≤ n) from by omega, decide_true]
    exact R_out hg1
theorem room_spec {c : Csh} (h : CacheAt G κ μ w p lq came c) :
    Calls Tryz.prog 53 #[.pointer (some ⟨p, 0, none⟩)] w (Ret fun v w' => v = .int .i64 ((c.cap : Int) - c.dirty.length) ∧ Grow w w') := by
  obtain ⟨hok, h⟩ := h
  obtain ⟨dm, cm, rv, hc⟩ := h.cells
  have hroom := hok.room
  simp only [Csh.cap, Csh.dirty] at hroom
  apply enter53
  apply R_in
  simp (maxSteps := 1000000) (disch := omega) only [↓sy1, sy2, sy3, readOK, sy5, sy6, Nat.reduceEqDiff, ↓reduceIte, sy7, sy8, sy9, sya, oneOf, syb, syc, Nat.reduceAdd, Nat.reduceMul, syd, sye, syf, syg, syh, reduceCtorEq, F53]
  refine draw53_0 (fun _ => False) ?_
  have hgd : Grow w w.drew := (Keep.refl _ _).drew
  generalize w.drew = w1 at hgd ⊢
  obtain ⟨c0, c1, c2, c3, c4, hdm, hcm, hrow⟩ := hc hgd
  have hlen := hdm.len (N := c.N) (fun n b hb => (hok.q n b hb).1)
  simp (maxSteps := 1000000) (disch := omega) only [↓sy1, sy2, sy3, readOK, sy5, sy6, Nat.reduceEqDiff, ↓reduceIte, sy7, sy8, sy9, sya, oneOf, syb, syc, Nat.reduceAdd, Nat.reduceMul, syd, sye, syf, syg, syh, reduceCtorEq, PL53_0, c0, c2]
  refine call0 (capacity_spec (h.log.grow hgd)) ?_
  rintro _ w2 ⟨rfl, rfl⟩
  simp (maxSteps := 1000000) (disch := omega) only [↓sy1, sy2, sy3, readOK, sy5, sy6, Nat.reduceEqDiff, ↓reduceIte, sy7, sy8, sy9, sya, oneOf, syb, syc, Nat.reduceAdd, Nat.reduceMul, syd, sye, syf, syg, syh, reduceCtorEq, hlen]
  refine ⟨Keep.refl _ _, ?_⟩
  refine R_out ⟨?_, hgd⟩
  simp only [Csh.cap, Csh.dirty]
theorem clog_spec {c : Csh} (h : CacheAt G κ μ w p lq came c) :
    Calls Tryz.prog 20 #[.pointer (some ⟨p, 0, none⟩)] w (Ret fun v w' => v = .pointer (some ⟨lq, 0, none⟩) ∧ w' = w) := by
  obtain ⟨dm, cm, rv, hc⟩ := h.2.cells
  apply enter20
  apply R_in
  simp (maxSteps := 1000000) (disch := omega) only [↓sy1, sy2, sy3, readOK, sy5, sy6, Nat.reduceEqDiff, ↓reduceIte, sy7, sy8, sy9, sya, oneOf, syb, syc, Nat.reduceAdd, Nat.reduceMul, syd, sye, syf, syg, syh, reduceCtorEq, F20, (hc (Keep.refl _ _)).1]
  exact R_out trivial
theorem abort_spec {c : Csh} (h : CacheAt G κ μ w p lq came c) :
    Calls Tryz.prog 64 #[.pointer (some ⟨p, 0, none⟩)] w (Ret fun v w' => v = .int .i64 c.dirty.length ∧ CacheAt G κ μ w' p lq came c.abort ∧ Ext (fun x => x = μ) G w G w') := by
  obtain ⟨hok, h⟩ := h
  obtain ⟨h1, h2, h3, h4, dm, cm, rv, h5, h6, h7, h8, h9, h10, h11⟩ := h
  have hlen := h9.len (N := c.N) (fun n b hb => (hok.q n b hb).1)
  have hc2 : w.cell? ⟨p, 2, none⟩ = some (.map (some dm)) := by rw [cell_block h5]; rfl
  apply enter64
  apply R_in
  simp (maxSteps := 1000000) (disch := omega) only [↓sy1, sy2, sy3, readOK, sy5, sy6, Nat.reduceEqDiff, ↓reduceIte, sy7, sy8, sy9, sya, oneOf, syb, syc, Nat.reduceAdd, Nat.reduceMul, syd, sye, syf, syg, syh, reduceCtorEq, F64, hc2, hlen]
  refine h9.clear (by simp only [upd_at, Nat.reduceEqDiff, reduceIte, ev_tmp, ev_const, List.map_cons, List.map_nil]) underM (fun w1 hx1 hk1 h9' => ?_)
  have hpm : p ≠ dm := fun hc => by
    obtain ⟨es, clk, k1, _⟩ := h9
    rw [← hc, h5] at k1; cases k1
  have hdo : G.own dm = μ ∧ G.fix dm = 0 := by obtain ⟨es, clk, _, k2, k3, _⟩ := h9; exact ⟨k2, k3⟩
  have hrow : RowI G μ w1 rv c.row := h11.keep1 hk1 (by
    obtain ⟨es, clk, k1, _⟩ := h9
    exact h11.ne k1 (fun c t f hc => by cases hc))
  simp (maxSteps := 1000000) (disch := omega) only [↓sy1, sy2, sy3, readOK, sy5, sy6, Nat.reduceEqDiff, ↓reduceIte, sy7, sy8, sy9, sya, oneOf, syb, syc, Nat.reduceAdd, Nat.reduceMul, syd, sye, syf, syg, syh, reduceCtorEq]
  exact R_out ⟨rfl, ⟨hok.abort, h1, h2, h3, h4.ext hx1 h1 (fun h => h2 h.symm), dm, cm, rv, hk1.heap h5 hpm, h6, h7, h8, h9', h10.keep1 hk1 (fun h => h8 h.symm) hdo.1 hdo.2, hrow⟩, hx1⟩
end
end Go.Proofs.YtienelpepioggaaGreat

/- A cache: a page is read, a page is written. -/
namespace Go.Proofs.YtienelpepioggaaGreat
open Go
set_option linter.unusedSimpArgs false
open Go.RowKit (intOf)
section
variable {G : Gh} {κ μ p lq came : Nat} {w : World} {c : Csh}
theorem image_page (h : c.Ok) {n : Nat} (hn : n < c.N) : c.D.image[c.size + 1 + n]'(by rw [Dsk.image_length]; simp only [Csh.N] at hn; omega) = c.D.image.getD (c.size + 1 + n) [] := by
  have hl : c.size + 1 + n < c.D.image.length := by rw [Dsk.image_length]; simp only [Csh.N] at hn; omega
  rw [List.getD_eq_getElem?_getD, List.getElem?_eq_getElem hl]; rfl
theorem page_len (h : c.Ok) {n : Nat} (hn : n < c.N) : (c.D.image.getD (c.size + 1 + n) []).length = 512 := by
  rw [← image_page h hn]; exact h.ok.image _ (List.getElem_mem _)
theorem drop_first {l : List Nat} (h : l.Nodup) (hl : 0 < l.length) : l.filter (fun k => decide (k ≠ l[0])) = l.drop 1 := by
  cases l with
  | nil => simp at hl
  | cons a l =>
    have ha : a ∉ l := (List.nodup_cons.1 h).1
    simp only [List.getElem_cons_zero, List.drop_succ_cons, List.drop_zero]
    rw [List.filter_cons]
    simp only [ne_eq, not_true_eq_false, decide_false, Bool.false_eq_true, if_false]
    exact filter_no ha
set_option maxHeartbeats 4000000 in
theorem cread_strong (h : CacheAt G κ μ w p lq came c) {n : Nat} (hn : n < c.N) :
    Calls Tryz.prog 40 #[.pointer (some ⟨p, 0, none⟩), .int .i64 n] w (Ret fun v w' => ∃ u G' w1, v = .tuple #[u, .int .i64 0] ∧ w'.ownsRow w1.heap.size 5 1 u 512 (bs (c.page n)) ∧ CacheAt G' κ μ w1 p lq came (c.read n) ∧ Ext (fun x => x = μ) G w G' w1 ∧ Grow w1 w') := by
  obtain ⟨hok, hM⟩ := h
  have hokr := hok.read hn
  have hpl := page_len hok hn
  have hN : c.N = c.D.first.length - c.size - 1 := rfl
  have hfew := hok.few
  have hm1 := hok.m1
  have hm2 := hok.m2
  apply enter40
  apply R_in
  simp (maxSteps := 1000000) (disch := omega) only [↓sy1, sy2, sy3, readOK, sy5, sy6, Nat.reduceEqDiff, ↓reduceIte, sy7, sy8, sy9, sya, oneOf, syb, syc, Nat.reduceAdd, Nat.reduceMul, syd, sye, syf, syg, syh, reduceCtorEq, F40]
  refine call0 (look_okC hM (n := n) (by omega)) ?_
  rintro _ w1 ⟨rfl, hg1⟩
  have hM1 := hM.grow hg1
  obtain ⟨dm, cm, rv, hc⟩ := hM1.cells
  obtain ⟨c0, c1, c2, c3, c4, hdm, hcm, hrow⟩ := hc (Keep.refl _ _)
  rcases hdm.find n with ⟨hq, hlk⟩ | ⟨b, v, hq, hv, hlk⟩
  rotate_left
  · simp (maxSteps := 1000000) (disch := omega) only [↓sy1, sy2, sy3, readOK, sy5, sy6, Nat.reduceEqDiff, ↓reduceIte, sy7, sy8, sy9, sya, oneOf, syb, syc, Nat.reduceAdd, Nat.reduceMul, syd, sye, syf, syg, syh, reduceCtorEq, c2, (hlk (.slice none 0 0)).2, decide_true, Bool.not_true]
    have hb5 := (hok.q n b hq).2
    refine call0 (bytesClone_spec v b w1 hv.1.1 (by omega)) ?_
    rintro u w2 ⟨hu, hg2⟩
    simp (maxSteps := 1000000) (disch := omega) only [↓sy1, sy2, sy3, readOK, sy5, sy6, Nat.reduceEqDiff, ↓reduceIte, sy7, sy8, sy9, sya, oneOf, syb, syc, Nat.reduceAdd, Nat.reduceMul, syd, sye, syf, syg, syh, reduceCtorEq]
    have hpg : c.page n = b := by simp [Csh.page, hq]
    have hrd : c.read n = c := by simp [Csh.read, hq]
    rw [hpg, hrd]
    rw [hb5] at hu
    exact R_out ⟨u, G, w1, rfl, hu, ⟨hok, hM1⟩, .grow hg1, hg2⟩
  have hpg : c.page n = c.D.image.getD (c.size + 1 + n) [] := by simp [Csh.page, hq]
  have hrd : c.read n = { c with row := touch c.row n c.most } := by simp [Csh.read, hq]
  rw [hpg]
  rw [hrd] at hokr ⊢
  have hclean : ∀ m, cleanQ c.D c.size c.row m = (if m ∈ c.row then some (c.D.image.getD (c.size + 1 + m) []) else none) := fun m => rfl
  rcases hcm.find n with ⟨hcq, hclk⟩ | ⟨b, v, hcq, hv, hclk⟩
  all_goals first
    | (
      simp (maxSteps := 1000000) (disch := omega) only [↓sy1, sy2, sy3, readOK, sy5, sy6, Nat.reduceEqDiff, ↓reduceIte, sy7, sy8, sy9, sya, oneOf, syb, syc, Nat.reduceAdd, Nat.reduceMul, syd, sye, syf, syg, syh, reduceCtorEq, c2, (hlk (.slice none 0 0)).2, decide_true, Bool.not_true, c3, (hclk (.slice none 0 0)).2, c0, Bool.not_false]
      refine call0 (lread_spec hM1.log (n := n) (by omega)) ?_
      rintro _ w2 ⟨bv, rfl, hbv, hg2⟩
      rw [image_page hok hn] at hbv
      have hx2 : Ext0 G w1 (G.upto w1.heap.size (fun _ => 0) (fun _ => maxLen)) w2 := .upto hg2 _ _
      have hF2 : HasZ (G.upto w1.heap.size (fun _ => 0) (fun _ => maxLen)) w2 bv (c.D.image.getD (c.size + 1 + n) []) := own_Z hbv (fun b hb => by simp [Gh.upto, Nat.not_lt.2 hb])
      have hM2 := hM1.ext hx2 id id id
      have hx02 : Ext0 G w (G.upto w1.heap.size (fun _ => 0) (fun _ => maxLen)) w2 := (Ext.grow hg1).trans hx2
      generalize (G.upto w1.heap.size (fun _ => 0) (fun _ => maxLen)) = G2 at hx2 hF2 hM2 hx02
      clear hx2 hM1 hc hdm hcm hrow hbv hg2 hlk hclk c0 c1 c2 c3 c4 hg1
      simp (maxSteps := 1000000) (disch := omega) only [↓sy1, sy2, sy3, readOK, sy5, sy6, Nat.reduceEqDiff, ↓reduceIte, sy7, sy8, sy9, sya, oneOf, syb, syc, Nat.reduceAdd, Nat.reduceMul, syd, sye, syf, syg, syh, reduceCtorEq])
    | (
      have hb : b = c.D.image.getD (c.size + 1 + n) [] := by
        simp only [cleanQ] at hcq
        split at hcq
        · exact (Option.some.inj hcq).symm
        · cases hcq
      subst hb
      obtain ⟨G2, hG2⟩ : ∃ G2 : Gh, G2 = G := ⟨_, rfl⟩
      have hF2 : HasZ G2 w1 v (c.D.image.getD (c.size + 1 + n) []) := by rw [hG2]; exact hv
      have hM2 : CacheM G2 κ μ w1 p lq c.size came c.D c.most c.q (cleanQ c.D c.size c.row) c.row := by rw [hG2]; exact hM1
      have hx02 : Ext0 G w G2 w1 := by rw [hG2]; exact .grow hg1
      clear hG2
      simp (maxSteps := 1000000) (disch := omega) only [↓sy1, sy2, sy3, readOK, sy5, sy6, Nat.reduceEqDiff, ↓reduceIte, sy7, sy8, sy9, sya, oneOf, syb, syc, Nat.reduceAdd, Nat.reduceMul, syd, sye, syf, syg, syh, reduceCtorEq, c2, (hlk (.slice none 0 0)).2, decide_true, Bool.not_true, c3, (hclk (.slice none 0 0)).2, c0, Bool.not_true]
      clear hM1 hc hdm hcm hrow hlk hclk c0 c1 c2 c3 c4 hg1 hv)
  all_goals
    refine call0 (drop_spec hM2 n) ?_
    rintro _ w3 ⟨hM3, hx3⟩
    rw [cleanQ_del] at hM3
    have hF3 := hF2.ext hx3
    have hx03 := (hx02.mono (κ' := fun x => x = μ) (fun _ h => h.elim)).trans hx3
    have hlf := List.length_filter_le (fun k => decide (k ≠ n)) c.row
    obtain ⟨k1, k2, k3, k4, dm, cm, rv, k5, k6, k7, k8, k9, k10, k11⟩ := hM3
    have hc4 : w3.cell? ⟨p, 4, none⟩ = some rv := by rw [cell_block k5]; rfl
    simp (maxSteps := 1000000) (disch := omega) only [↓sy1, sy2, sy3, readOK, sy5, sy6, Nat.reduceEqDiff, ↓reduceIte, sy7, sy8, sy9, sya, oneOf, syb, syc, Nat.reduceAdd, Nat.reduceMul, syd, sye, syf, syg, syh, reduceCtorEq, hc4]
    have hga : Grow w3 (w3.alloc (.cells #[.int .i64 (n : Int)] 3)) := (Keep.refl _ _).alloc _
    have hsa : (w3.alloc (.cells #[.int .i64 (n : Int)] 3)).heap.size = w3.heap.size + 1 := by simp
    refine app_own2 elemI (by simp only [upd_at, Nat.reduceEqDiff, reduceIte, ev_tmp, ev_const, List.map_cons, List.map_nil]) (by simp only [upd_at, Nat.reduceEqDiff, reduceIte, ev_tmp, ev_const, List.map_cons, List.map_nil]) (own_grow k11.1 hga) Has.new1 (m := 1) rfl (by simp [isCell]) (by omega) (by omega) (by omega) ?_
    intro rv' w4 ho4 hg4 hb4
    have hk4 : Keep (fun b => some b = rv.ownBlock) w3 w4 := (Keep.grow hga).trans (Keep.grown hg4)
    have hx4 := Ext.app hk4 k11.2
    have hup : ∀ m, m < w3.heap.size → ∀ (GG : Gh), (GG.upto w3.heap.size (fun _ => μ) (fun _ => 0)).own m = GG.own m ∧ (GG.upto w3.heap.size (fun _ => μ) (fun _ => 0)).fix m = GG.fix m := fun m hm GG => by simp [Gh.upto, hm]
    have hplt := (Array.getElem?_eq_some_iff.1 k5).1
    have hp4 := hk4.heap k5 (fun hc => k11.ne k5 (fun c t f hc => by cases hc; decide) hc.symm)
    have hmapne : ∀ {m : Nat} {o : Array MapEntry} {k : Nat}, w3.heap[m]? = some (.map o k) → ¬ (some m = rv.ownBlock) := fun {m o k} hm hc => k11.ne hm (fun c t f hc => by cases hc) hc.symm
    have hmv : ∀ {m : Nat} {q : Nat → Option (List UInt8)} {GG : Gh}, BMap GG μ w3 m q → w4.heap[m]? = w3.heap[m]? := fun {m q GG} hm => by
      obtain ⟨es, clk, r1, _⟩ := id hm
      exact hk4.blk m hm.lt (hmapne r1)
    have h9 := k9.move hx4 (hmv k9) (hup dm k9.lt _).1 (hup dm k9.lt _).2
    have h10 := k10.move hx4 (hmv k10) (hup cm k10.lt _).1 (hup cm k10.lt _).2
    have hF4 := hF3.ext hx4
    have hl4 := k4.ext hx4 k1 (fun h => k2 h.symm)
    have hrow4 : RowI (G2.upto w3.heap.size (fun _ => μ) (fun _ => 0)) μ w4 rv' (c.row.filter (fun k => decide (k ≠ n)) ++ [n]) := by
      refine ⟨?_, fun b hb => ?_⟩
      rotate_left
      · rcases hb4 with hb4 | hb4
        · rw [hb4] at hb
          have hlt := (World.ownsRow.lt k11.1 b hb).2
          have h2 := k11.2 b hb
          exact ⟨(hup b hlt _).1.trans h2.1, (hup b hlt _).2.trans h2.2⟩
        · rw [hb4, hsa] at hb
          cases hb
          simp [Gh.upto, show ¬ (w3.heap.size + 1 < w3.heap.size) from by omega]
      · have hts : ints (zs (c.row.filter (fun k => decide (k ≠ n)) ++ [n])) = ints (zs (c.row.filter (fun k => decide (k ≠ n)))) ++ [.int .i64 (n : Int)] := by simp [ints, zs]
        rw [hts, List.length_append, List.length_singleton]
        exact ho4
    have hx04 := hx03.trans hx4
    have h6 := (hup p hplt _).1.trans k6
    have h7 := (hup p hplt _).2.trans k7
    generalize (G2.upto w3.heap.size (fun _ => μ) (fun _ => 0)) = G5 at hx4 h9 h10 hF4 hl4 hrow4 hx04 h6 h7
    have hrc4 : isCell rv' = true := hrow4.has.isCell
    obtain ⟨w5, hst, hp5, hk5⟩ := cell_store hp4 (i := 4) (by simp) (u := rv') hrc4
    have hp5' : w5.heap[p]? = some (.cells #[.pointer (some ⟨lq, 0, none⟩), .int .i64 c.most, .map (some dm), .map (some cm), rv'] 66 (0, 0)) := by simpa using hp5
    have hpm : ∀ {m : Nat} {q : Nat → Option (List UInt8)} {GG : Gh}, BMap GG μ w4 m q → m ≠ p := fun {m q GG} hm hc => by
      obtain ⟨es, clk, r1, _⟩ := hm
      rw [hc, hp4] at r1; cases r1
    have h9b := h9.keep1 hk5 (hpm h9) h6 h7
    have h10b := h10.keep1 hk5 (hpm h10) h6 h7
    have hx5 := Ext.on0 hk5 h6 h7
    have hl5 := hl4.ext hx5 k1 (fun h => k2 h.symm)
    have hF5 := hF4.ext hx5
    have hrow5 := hrow4.keep1 hk5 (hrow4.ne hp4 (fun c t f hc => by cases hc; decide))
    have hc3 : w5.cell? ⟨p, 3, none⟩ = some (.map (some cm)) := by rw [cell_block hp5']; rfl
    have hpcm : p ≠ cm := fun hc => hpm h10 hc.symm
    simp (maxSteps := 1000000) (disch := omega) only [↓sy1, sy2, sy3, readOK, sy5, sy6, Nat.reduceEqDiff, ↓reduceIte, sy7, sy8, sy9, sya, oneOf, syb, syc, Nat.reduceAdd, Nat.reduceMul, syd, sye, syf, syg, syh, reduceCtorEq, hst, hc3]
    refine h10b.put (n := n) (by simp only [upd_at, Nat.reduceEqDiff, reduceIte, ev_tmp, ev_const, List.map_cons, List.map_nil]) (by simp only [upd_at, Nat.reduceEqDiff, reduceIte, ev_tmp, ev_const, List.map_cons, List.map_nil]) rfl (by simpa only [upd_at, Nat.reduceEqDiff, reduceIte, ev_tmp, ev_const, List.map_cons, List.map_nil] using hF5) underM underI (fun w6 hx6 hk6 h10c => ?_)
    rw [cleanQ_put] at h10c
    have h9c := h9b.keep1 hk6 k8 (by obtain ⟨es, clk, _, r2, _⟩ := h10b; exact r2) (by obtain ⟨es, clk, _, _, r3, _⟩ := h10b; exact r3)
    have hp6 := hk6.heap hp5' hpcm
    have hrow6 := hrow5.keep1 hk6 (by
      obtain ⟨es, clk, r1, _⟩ := h10b
      exact hrow5.ne r1 (fun c t f hc => by cases hc))
    have hl6 := hl5.ext hx6 k1 (fun h => k2 h.symm)
    have hF6 := hF5.ext hx6
    have hx06 := (hx04.trans hx5).trans hx6
    have hlr : (c.row.filter (fun k => decide (k ≠ n)) ++ [n]).length ≤ 65 := by rw [List.length_append, List.length_singleton]; omega
    have hM6 : CacheM G5 κ μ w6 p lq c.size came c.D c.most c.q (cleanQ c.D c.size (c.row.filter (fun k => decide (k ≠ n)) ++ [n])) (c.row.filter (fun k => decide (k ≠ n)) ++ [n]) := ⟨k1, k2, hlr, hl6, dm, cm, rv', hp6, h6, h7, k8, h9c, h10c, hrow6⟩
    have hnd : (c.row.filter (fun k => decide (k ≠ n)) ++ [n]).Nodup := by
      rw [List.nodup_append]
      exact ⟨hok.nodup.sublist (List.filter_sublist ..), by simp, fun a ha b hb => by simp at hb; subst hb; exact (filter_ne_mem.1 ha).2⟩
    have htd : touch c.row n c.most = if c.most < (c.row.filter (fun k => decide (k ≠ n)) ++ [n]).length then (c.row.filter (fun k => decide (k ≠ n)) ++ [n]).drop 1 else c.row.filter (fun k => decide (k ≠ n)) ++ [n] := rfl
    rw [htd] at hokr ⊢
    have hlpos : 0 < (c.row.filter (fun k => decide (k ≠ n)) ++ [n]).length := by rw [List.length_append, List.length_singleton]; omega
    have hin : ∀ k ∈ c.row.filter (fun k => decide (k ≠ n)) ++ [n], k < c.N := fun k hk => by
      rcases List.mem_append.1 hk with hk | hk
      · exact (hok.row k (filter_ne_mem.1 hk).1).1
      · simp at hk; subst hk; exact hn
    clear hM2 hF2 hx02 hx3 hF3 hx03 hlf k3 k4 k5 k6 k7 k9 k10 k11 hc4 hga hsa ho4 hg4 hb4 hk4 hup hplt hp4 hmapne hmv hx4 h9 h10 hF4 hl4 hrow4 hx04 hst hp5 hk5 hp5' hpm h9b h10b hx5 hl5 hF5 hrow5 hx6 hk6
    generalize hrr : c.row.filter (fun k => decide (k ≠ n)) ++ [n] = row' at *
    refine draw40_0 (fun _ => False) ?_
    have hgd : Grow w6 w6.drew := (Keep.refl _ _).drew
    generalize w6.drew = w7 at hgd ⊢
    have hp7 := hgd.gheap hp6
    have hrow7 := hrow6.ext (K := fun _ => False) (.grow hgd) id
    have hM7 := hM6.grow hgd
    have hF7 := hF6.ext (K := fun _ => False) (.grow hgd)
    have hlen : ∀ w', lenF w' 0 rv' = some (.int .i64 row'.length) := fun w' => by rw [hrow7.has.lenI]; simp
    have q1 : w7.cell? ⟨p, 1, none⟩ = some (.int .i64 c.most) := by rw [cell_block hp7]; rfl
    have q4 : w7.cell? ⟨p, 4, none⟩ = some rv' := by rw [cell_block hp7]; rfl
    by_cases hlt : c.most < row'.length
    · rw [if_pos hlt] at hokr ⊢
      obtain ⟨a, ha, hac, _⟩ := hrow7.has.getI (i := 0) (by simpa using hlpos)
      have hz : (zs row')[0]'(by simpa using hlpos) = ((row'[0] : Nat) : Int) := by simp
      rw [hz] at hac
      have ha : iaF 1 rv' (.int .i64 0) = some (.pointer (some a)) := ha
      simp (maxSteps := 1000000) (disch := omega) only [↓sy1, sy2, sy3, readOK, sy5, sy6, Nat.reduceEqDiff, ↓reduceIte, sy7, sy8, sy9, sya, oneOf, syb, syc, Nat.reduceAdd, Nat.reduceMul, syd, sye, syf, syg, syh, reduceCtorEq, PL40_0, q1, q4, hlen, show ((c.most : Int) < (row'.length : Int)) from by omega, decide_true, ha, hac]
      refine call0 (drop_spec hM7 row'[0]) ?_
      rintro _ w8 ⟨hM8, hx8⟩
      rw [cleanQ_del, drop_first hnd hlpos] at hM8
      have hF8 := hF7.ext hx8
      simp (maxSteps := 1000000) (disch := omega) only [↓sy1, sy2, sy3, readOK, sy5, sy6, Nat.reduceEqDiff, ↓reduceIte, sy7, sy8, sy9, sya, oneOf, syb, syc, Nat.reduceAdd, Nat.reduceMul, syd, sye, syf, syg, syh, reduceCtorEq]
      refine call0 (bytesClone_spec _ _ w8 hF8.1.1 (by omega)) ?_
      rintro u w9 ⟨hu, hg9⟩
      simp (maxSteps := 1000000) (disch := omega) only [↓sy1, sy2, sy3, readOK, sy5, sy6, Nat.reduceEqDiff, ↓reduceIte, sy7, sy8, sy9, sya, oneOf, syb, syc, Nat.reduceAdd, Nat.reduceMul, syd, sye, syf, syg, syh, reduceCtorEq]
      rw [hpl] at hu
      exact R_out ⟨u, G5, w8, rfl, hu, ⟨hokr, hM8⟩, (hx06.trans (.grow hgd)).trans hx8, hg9⟩
    · rw [if_neg hlt] at hokr ⊢
      simp (maxSteps := 1000000) (disch := omega) only [↓sy1, sy2, sy3, readOK, sy5, sy6, Nat.reduceEqDiff, ↓reduceIte, sy7, sy8, sy9, sya, oneOf, syb, syc, Nat.reduceAdd, Nat.reduceMul, syd, sye, syf, syg, syh, reduceCtorEq, PL40_0, q1, q4, hlen, show ¬ ((c.most : Int) < (row'.length : Int)) from by omega, decide_false]
      refine call0 (bytesClone_spec _ _ w7 hF7.1.1 (by omega)) ?_
      rintro u w9 ⟨hu, hg9⟩
      simp (maxSteps := 1000000) (disch := omega) only [↓sy1, sy2, sy3, readOK, sy5, sy6, Nat.reduceEqDiff, ↓reduceIte, sy7, sy8, sy9, sya, oneOf, syb, syc, Nat.reduceAdd, Nat.reduceMul, syd, sye, syf, syg, syh, reduceCtorEq]
      rw [hpl] at hu
      exact R_out ⟨u, G5, w7, rfl, hu, ⟨hokr, hM7⟩, hx06.trans (.grow hgd), hg9⟩
end
end Go.Proofs.YtienelpepioggaaGreat

/- A cache: a page is written. -/
namespace Go.Proofs.YtienelpepioggaaGreat
open Go
set_option linter.unusedSimpArgs false
open Go.RowKit (intOf)
section
variable {G : Gh} {κ μ p lq came : Nat} {w : World} {c : Csh}
set_option maxHeartbeats 4000000 in
theorem cwrite_spec (h : CacheAt G κ μ w p lq came c) {n : Int} {bv : Value} {b : List UInt8} (hb : HasB w bv b) (hl : b.length ≤ 140737488355328) :
    Calls Tryz.prog 27 #[.pointer (some ⟨p, 0, none⟩), .int .i64 n, bv] w (Ret fun v w' => v = .int .i64 (c.wcode n b.length) ∧ ∃ G', CacheAt G' κ μ w' p lq came (if c.wcode n b.length = 0 then c.write n.toNat b else c) ∧ Ext (fun x => x = μ) G w G' w') := by
  obtain ⟨hok, hM⟩ := id h
  have hN : c.N = c.D.first.length - c.size - 1 := rfl
  apply enter27
  apply R_in
  simp (maxSteps := 1000000) (disch := omega) only [↓sy1, sy2, sy3, readOK, sy5, sy6, Nat.reduceEqDiff, ↓reduceIte, sy7, sy8, sy9, sya, oneOf, syb, syc, Nat.reduceAdd, Nat.reduceMul, syd, sye, syf, syg, syh, reduceCtorEq, F27]
  by_cases hn : n < 0 ∨ (c.N : Int) ≤ n
  · refine call0 (look_badC hM hn) ?_
    rintro _ w1 ⟨rfl, hg1⟩
    have hcode : c.wcode n b.length = 2 := by unfold Csh.wcode; rw [if_pos hn]
    rw [hcode, if_neg (by omega)]
    simp (maxSteps := 1000000) (disch := omega) only [↓sy1, sy2, sy3, readOK, sy5, sy6, Nat.reduceEqDiff, ↓reduceIte, sy7, sy8, sy9, sya, oneOf, syb, syc, Nat.reduceAdd, Nat.reduceMul, syd, sye, syf, syg, syh, reduceCtorEq, show ¬ ((2 : Int) = 0) from by omega, decide_false, Bool.not_false]
    exact R_out ⟨G, h.grow hg1, .grow hg1⟩
  obtain ⟨m, rfl⟩ : ∃ m : Nat, n = m := ⟨n.toNat, by omega⟩
  have hmN : m < c.N := by omega
  refine call0 (look_okC hM (n := m) hmN) ?_
  rintro _ w1 ⟨rfl, hg1⟩
  have hM1 := hM.grow hg1
  have hb1 := hb.grow hg1
  have hlen : ∀ w', lenF w' 0 bv = some (.int .i64 b.length) := fun w' => by rw [hb.lenB]
  obtain ⟨dm, cm, rv, hc⟩ := hM1.cells
  obtain ⟨c0, c1, c2, c3, c4, hdm, hcm, hrow⟩ := hc (Keep.refl _ _)
  by_cases h5 : b.length = 512
  rotate_left
  · have hcode : c.wcode m b.length = 3 := by unfold Csh.wcode; rw [if_neg hn, if_pos h5]
    rw [hcode, if_neg (by omega)]
    rcases hdm.find m with ⟨hq, hlk⟩ | ⟨b0, v0, hq, hv0, hlk⟩
    · simp (maxSteps := 1000000) (disch := omega) only [↓sy1, sy2, sy3, readOK, sy5, sy6, Nat.reduceEqDiff, ↓reduceIte, sy7, sy8, sy9, sya, oneOf, syb, syc, Nat.reduceAdd, Nat.reduceMul, syd, sye, syf, syg, syh, reduceCtorEq, c2, (hlk (.slice none 0 0)).2, hlen, show ¬ ((b.length : Int) = 512) from by omega, decide_false, Bool.not_false]
      exact R_out ⟨G, h.grow hg1, .grow hg1⟩
    · simp (maxSteps := 1000000) (disch := omega) only [↓sy1, sy2, sy3, readOK, sy5, sy6, Nat.reduceEqDiff, ↓reduceIte, sy7, sy8, sy9, sya, oneOf, syb, syc, Nat.reduceAdd, Nat.reduceMul, syd, sye, syf, syg, syh, reduceCtorEq, c2, (hlk (.slice none 0 0)).2, hlen, show ¬ ((b.length : Int) = 512) from by omega, decide_false, Bool.not_false]
      exact R_out ⟨G, h.grow hg1, .grow hg1⟩
  have hb5 : (b.length : Int) = 512 := by omega
  by_cases h7 : c.q m = none ∧ c.cap ≤ c.dirty.length
  · have hcode : c.wcode m b.length = 7 := by unfold Csh.wcode; rw [if_neg hn, if_neg (by omega)]; exact if_pos h7
    rw [hcode, if_neg (by omega)]
    rcases hdm.find m with ⟨hq, hlk⟩ | ⟨b0, v0, hq, hv0, hlk⟩
    · simp (maxSteps := 1000000) (disch := omega) only [↓sy1, sy2, sy3, readOK, sy5, sy6, Nat.reduceEqDiff, ↓reduceIte, sy7, sy8, sy9, sya, oneOf, syb, syc, Nat.reduceAdd, Nat.reduceMul, syd, sye, syf, syg, syh, reduceCtorEq, c2, (hlk (.slice none 0 0)).2, hlen, hb5, decide_true, Bool.not_true, Bool.not_false]
      refine call0 (room_spec (h.grow hg1)) ?_
      rintro _ w2 ⟨rfl, hg2⟩
      have hroom := h7.2
      simp (maxSteps := 1000000) (disch := omega) only [↓sy1, sy2, sy3, readOK, sy5, sy6, Nat.reduceEqDiff, ↓reduceIte, sy7, sy8, sy9, sya, oneOf, syb, syc, Nat.reduceAdd, Nat.reduceMul, syd, sye, syf, syg, syh, reduceCtorEq, show ((c.cap : Int) - c.dirty.length ≤ 0) from by omega, decide_true]
      exact R_out ⟨G, (h.grow hg1).grow hg2, .grow (hg1.trans hg2)⟩
    · rw [hq] at h7; cases h7.1
  have hcode : c.wcode m b.length = 0 := by unfold Csh.wcode; rw [if_neg hn, if_neg (by omega)]; exact if_neg h7
  have hokw := hok.write hcode
  rw [hcode, if_pos rfl]
  rcases hdm.find m with ⟨hq, hlk⟩ | ⟨b0, v0, hq, hv0, hlk⟩
  all_goals first
    | (
      simp (maxSteps := 1000000) (disch := omega) only [↓sy1, sy2, sy3, readOK, sy5, sy6, Nat.reduceEqDiff, ↓reduceIte, sy7, sy8, sy9, sya, oneOf, syb, syc, Nat.reduceAdd, Nat.reduceMul, syd, sye, syf, syg, syh, reduceCtorEq, c2, (hlk (.slice none 0 0)).2, hlen, hb5, decide_true, Bool.not_true, Bool.not_false]
      refine call0 (room_spec (h.grow hg1)) ?_
      rintro _ w2 ⟨rfl, hg2⟩
      have hroom : ¬ (c.cap ≤ c.dirty.length) := fun hh => h7 ⟨hq, hh⟩
      simp (maxSteps := 1000000) (disch := omega) only [↓sy1, sy2, sy3, readOK, sy5, sy6, Nat.reduceEqDiff, ↓reduceIte, sy7, sy8, sy9, sya, oneOf, syb, syc, Nat.reduceAdd, Nat.reduceMul, syd, sye, syf, syg, syh, reduceCtorEq, show ¬ ((c.cap : Int) - c.dirty.length ≤ 0) from by omega, decide_false]
      have hg2 := hg1.trans hg2)
    | (
      have hg2 := hg1
      simp (maxSteps := 1000000) (disch := omega) only [↓sy1, sy2, sy3, readOK, sy5, sy6, Nat.reduceEqDiff, ↓reduceIte, sy7, sy8, sy9, sya, oneOf, syb, syc, Nat.reduceAdd, Nat.reduceMul, syd, sye, syf, syg, syh, reduceCtorEq, c2, (hlk (.slice none 0 0)).2, hlen, hb5, decide_true, Bool.not_true, Bool.not_false])
  all_goals
    clear hdm hcm hrow hc c0 c1 c2 c3 c4 hlk
    refine draw27_0 (fun _ => False) ?_
    have hg3 := hg2.drew
    have hgd : Grow _ _ := hg3
    generalize hw3 : World.drew _ = w3 at hg3 ⊢
    clear hgd hg2 hw3
    obtain ⟨k1, k2, k3, k4, dm, cm, rv, k5, k6, k7, k8, k9, k10, k11⟩ := hM.grow hg3
    have hc2 : w3.cell? ⟨p, 2, none⟩ = some (.map (some dm)) := by rw [cell_block k5]; rfl
    simp (maxSteps := 1000000) (disch := omega) only [↓sy1, sy2, sy3, readOK, sy5, sy6, Nat.reduceEqDiff, ↓reduceIte, sy7, sy8, sy9, sya, oneOf, syb, syc, Nat.reduceAdd, Nat.reduceMul, syd, sye, syf, syg, syh, reduceCtorEq, PL27_0, hc2]
    refine call0 (bytesClone_spec bv b w3 (hb.grow hg3) hl) ?_
    rintro u w4 ⟨hu, hg4⟩
    simp (maxSteps := 1000000) (disch := omega) only [↓sy1, sy2, sy3, readOK, sy5, sy6, Nat.reduceEqDiff, ↓reduceIte, sy7, sy8, sy9, sya, oneOf, syb, syc, Nat.reduceAdd, Nat.reduceMul, syd, sye, syf, syg, syh, reduceCtorEq]
    refine ⟨hg4, ?_⟩
    have hx4 : Ext0 G w3 (G.upto w3.heap.size (fun _ => 0) (fun _ => maxLen)) w4 := .upto hg4 _ _
    have hZ : HasZ (G.upto w3.heap.size (fun _ => 0) (fun _ => maxLen)) w4 u b := own_Z hu (fun b hb => by simp [Gh.upto, Nat.not_lt.2 hb])
    generalize (G.upto w3.heap.size (fun _ => 0) (fun _ => maxLen)) = G4 at hx4 hZ
    obtain ⟨k1, k2, k3, k4, dm', cm', rv', k5', k6, k7, k8, k9, k10, k11⟩ := (hM.grow hg3).ext hx4 id id id
    rw [hx4.heap k5 id] at k5'
    cases k5'
    refine k9.put (n := m) (by simp only [upd_at, Nat.reduceEqDiff, reduceIte, ev_tmp, ev_const, List.map_cons, List.map_nil]) (by simp only [upd_at, Nat.reduceEqDiff, reduceIte, ev_tmp, ev_const, List.map_cons, List.map_nil]) rfl (by simpa only [upd_at, Nat.reduceEqDiff, reduceIte, ev_tmp, ev_const, List.map_cons, List.map_nil] using hZ) underM underI (fun w5 hx5 hk5 h9c => ?_)
    have hp4 := hx4.heap k5 id
    have hpm : p ≠ dm := fun hc => by
      obtain ⟨es, clk, r1, _⟩ := k9
      rw [← hc, hp4] at r1; cases r1
    have hdo : G4.own dm = μ ∧ G4.fix dm = 0 := by obtain ⟨es, clk, _, r2, r3, _⟩ := k9; exact ⟨r2, r3⟩
    have hrow5 := k11.keep1 hk5 (by
      obtain ⟨es, clk, r1, _⟩ := k9
      exact k11.ne r1 (fun c t f hc => by cases hc))
    have hM5 : CacheM G4 κ μ w5 p lq c.size came c.D c.most (qput c.q m b) (cleanQ c.D c.size c.row) c.row :=
      ⟨k1, k2, k3, k4.ext hx5 k1 (fun h => k2 h.symm), dm, cm, rv, hk5.heap hp4 hpm, k6, k7, k8, h9c, k10.keep1 hk5 (fun h => k8 h.symm) hdo.1 hdo.2, hrow5⟩
    simp (maxSteps := 1000000) (disch := omega) only [↓sy1, sy2, sy3, readOK, sy5, sy6, Nat.reduceEqDiff, ↓reduceIte, sy7, sy8, sy9, sya, oneOf, syb, syc, Nat.reduceAdd, Nat.reduceMul, syd, sye, syf, syg, syh, reduceCtorEq]
    refine call0 (drop_spec hM5 m) ?_
    rintro _ w6 ⟨hM6, hx6⟩
    rw [cleanQ_del] at hM6
    simp (maxSteps := 1000000) (disch := omega) only [↓sy1, sy2, sy3, readOK, sy5, sy6, Nat.reduceEqDiff, ↓reduceIte, sy7, sy8, sy9, sya, oneOf, syb, syc, Nat.reduceAdd, Nat.reduceMul, syd, sye, syf, syg, syh, reduceCtorEq]
    exact R_out ⟨G4, ⟨hokw, hM6⟩, (((Ext.grow hg3).trans hx4).mono (κ' := fun x => x = μ) (fun _ h => h.elim)).trans (hx5.trans hx6)⟩
end
end Go.Proofs.YtienelpepioggaaGreat

/- A cache: all that was written is committed. -/
namespace Go.Proofs.YtienelpepioggaaGreat
open Go
set_option linter.unusedSimpArgs false
open Go.RowKit (intOf)
section
variable {G : Gh} {κ μ p lq came : Nat} {w : World} {c : Csh}
/-- What is read stays, when it is committed. -/
theorem Csh.commit_image (hc : c.Ok) {n : Nat} (hn : n < c.N) : c.commit.D.image.getD (c.size + 1 + n) [] = c.page n := by
  have hlen : c.dirtyL.length ≤ c.size := by have := hc.room; rw [Csh.dirtyL_length]; simp only [Csh.cap] at this; omega
  have hN : c.N = c.D.first.length - c.size - 1 := rfl
  by_cases hd : c.dirty = []
  · have hq : c.q n = none := by
      cases hq : c.q n with
      | none => rfl
      | some b =>
        have : n ∈ c.dirty := mem_keysQ.2 ⟨hn, b, hq⟩
        rw [hd] at this; cases this
    simp [Csh.commit, hd, Csh.page, hq]
  · have hD : c.commit.D = grouped c.size c.D c.dirtyL := by simp [Csh.commit, hd]
    rw [hD, List.getD_eq_getElem?_getD]
    cases hq : c.q n with
    | none =>
      rw [grouped_other hlen (by omega) (fun p hp he => by
        obtain ⟨m, b⟩ := p
        have := (Csh.mem_dirtyL hc).1 hp
        simp only at he
        have hmn : m = n := by omega
        subst hmn; rw [hq] at this; cases this)]
      simp [Csh.page, hq, List.getD_eq_getElem?_getD]
    | some b =>
      have := grouped_page (size := c.size) (D := c.D) (ps := c.dirtyL) (p := (n, b)) (by rw [Csh.dirtyL_fst]; exact nodup_lt (keysQ_rise _ _)) (fun p hp => by
        obtain ⟨m, b'⟩ := p
        have := (hc.q m b' ((Csh.mem_dirtyL hc).1 hp)).1
        simp only; omega) ((Csh.mem_dirtyL hc).2 hq)
      simp only at this
      rw [this]; simp [Csh.page, hq]
theorem Csh.commit_clean (hc : c.Ok) : cleanQ c.commit.D c.size c.row = cleanQ c.D c.size c.row := by
  funext n
  unfold cleanQ
  split
  · rename_i hm
    obtain ⟨h1, h2⟩ := hc.row n hm
    rw [Csh.commit_image hc h1]; simp [Csh.page, h2]
  · rfl
theorem MapOk.one {es : List MapEntry} {clk : Nat} (h : MapOk es clk) {y z : MapEntry} (hy : y ∈ es) (hz : z ∈ es) (hk : y.key = z.key) : y = z := by
  obtain ⟨i, hi, rfl⟩ := List.getElem_of_mem hy
  obtain ⟨j, hj, rfl⟩ := List.getElem_of_mem hz
  have hp := List.pairwise_iff_getElem.1 h.keys
  rcases Nat.lt_trichotomy i j with hlt | rfl | hlt
  · exact absurd hk (hp i j hi hj hlt)
  · rfl
  · exact absurd hk.symm (hp j i hj hi hlt)
/-- The pages that have been seen. -/
structure SeenP (es : List MapEntry) (seen : List Nat) (q : Nat → Option (List UInt8)) (ps : List Pg) : Prop where
  sound : ∀ p ∈ ps, ∃ n b, q n = some b ∧ p = ((n : Int), b) ∧ ∃ y ∈ es, y.born ∈ seen ∧ y.key = .int .i64 (n : Nat)
  full : ∀ y ∈ es, y.born ∈ seen → ∃ (n : Nat) (b : List UInt8), y.key = .int .i64 n ∧ q n = some b ∧ ((n : Int), b) ∈ ps
  nodup : (ps.map (·.1)).Nodup
theorem SeenP.nil (es : List MapEntry) (q : Nat → Option (List UInt8)) : SeenP es [] q [] := ⟨by simp, by simp, by simp⟩
theorem SeenP.snoc {es : List MapEntry} {clk : Nat} {seen : List Nat} {q : Nat → Option (List UInt8)} {ps : List Pg} (h : SeenP es seen q ps) (hok : MapOk es clk) {y : MapEntry} {n : Nat} {b : List UInt8} (hy : y ∈ es) (hyn : y.born ∉ seen) (hk : y.key = .int .i64 (n : Nat)) (hq : q n = some b) : SeenP es (seen ++ [y.born]) q (ps ++ [((n : Int), b)]) := by
  obtain ⟨h1, h2, h3⟩ := h
  have hno : ∀ p ∈ ps, p.1 ≠ (n : Int) := fun p hp he => by
    obtain ⟨m, b', _, rfl, z, hz, hzs, hzk⟩ := h1 p hp
    simp only at he
    have hmn : m = n := by omega
    subst hmn
    have := hok.one hy hz (by rw [hk, hzk])
    subst this; exact hyn hzs
  refine ⟨fun p hp => ?_, fun z hz hzs => ?_, ?_⟩
  · rcases List.mem_append.1 hp with hp | hp
    · obtain ⟨m, b', k1, k2, z, k3, k4, k5⟩ := h1 p hp
      exact ⟨m, b', k1, k2, z, k3, by simp [k4], k5⟩
    · simp at hp; subst hp
      exact ⟨n, b, hq, rfl, y, hy, by simp, hk⟩
  · rcases List.mem_append.1 hzs with hzs | hzs
    · obtain ⟨m, b', k1, k2, k3⟩ := h2 z hz hzs
      exact ⟨m, b', k1, k2, by simp [k3]⟩
    · simp at hzs
      have hzy : z = y := by
        have hb := hok.born
        obtain ⟨i, hi, rfl⟩ := List.getElem_of_mem hz
        obtain ⟨j, hj, rfl⟩ := List.getElem_of_mem hy
        have hp := List.pairwise_iff_getElem.1 hb
        rcases Nat.lt_trichotomy i j with hlt | rfl | hlt
        · exact absurd hzs (by have := hp i j hi hj hlt; omega)
        · rfl
        · exact absurd hzs.symm (by have := hp j i hj hi hlt; omega)
      subst hzy
      exact ⟨n, b, hk, hq, by simp⟩
  · rw [List.map_append, List.nodup_append]
    refine ⟨h3, by simp, fun a ha d hd => ?_⟩
    simp at hd; subst hd
    obtain ⟨p, hp, rfl⟩ := List.mem_map.1 ha
    exact hno p hp
theorem SeenP.group (hc : c.Ok) {es : List MapEntry} {seen : List Nat} {ps : List Pg} (h : SeenP es seen c.q ps) (hall : ∀ y ∈ es, y.born ∈ seen) (hhas : ∀ n b, c.q n = some b → ∃ e ∈ es, e.key = .int .i64 (n : Nat)) : c.group ps := by
  obtain ⟨h1, h2, h3⟩ := h
  have hnd : ∀ {l : List Pg}, (l.map (·.1)).Nodup → l.Nodup := fun {l} hl => by
    unfold List.Nodup at hl ⊢
    rw [List.pairwise_map] at hl
    exact hl.imp (fun hab hc => hab (by rw [hc]))
  refine (List.perm_ext_iff_of_nodup (hnd h3) (hnd ?_)).2 fun p => ?_
  · rw [List.map_map]
    have h4 : (c.dirtyL.map (·.1)).Pairwise (· < ·) := by rw [Csh.dirtyL_fst]; exact keysQ_rise _ _
    rw [List.pairwise_map] at h4
    unfold List.Nodup
    rw [List.pairwise_map]
    exact h4.imp (fun hab => by simp only [Function.comp]; omega)
  · rw [List.mem_map]
    constructor
    · intro hp
      obtain ⟨n, b, hq, rfl, _⟩ := h1 p hp
      exact ⟨(n, b), (Csh.mem_dirtyL hc).2 hq, rfl⟩
    · rintro ⟨⟨n, b⟩, hm, rfl⟩
      have hq := (Csh.mem_dirtyL hc).1 hm
      obtain ⟨y, hy, hk⟩ := hhas n b hq
      obtain ⟨n', b', k1, k2, k3⟩ := h2 y hy (hall y hy)
      rw [hk] at k1
      have := key_inj k1; subst this
      rw [hq] at k2; cases k2
      exact k3
theorem SeenP.few (hc : c.Ok) {es : List MapEntry} {seen : List Nat} {ps : List Pg} (h : SeenP es seen c.q ps) : ps.length ≤ 100 := by
  have h1 : (ps.map (·.1)).length ≤ (c.dirty.map fun n : Nat => (n : Int)).length := by
    refine List.Nodup.length_le_of_subset h.nodup (fun a ha => ?_)
    obtain ⟨p, hp, rfl⟩ := List.mem_map.1 ha
    obtain ⟨n, b, hq, rfl, _⟩ := h.sound p hp
    exact List.mem_map.2 ⟨n, mem_keysQ.2 ⟨(hc.q n b hq).1, b, hq⟩, rfl⟩
  rw [List.length_map, List.length_map] at h1
  have := hc.room
  simp only [Csh.cap] at this; omega
set_option maxHeartbeats 4000000 in
theorem ccommit_spec (h : CacheAt G κ μ w p lq came c) (ho : c.D.ops.length < 700000) :
    Calls Tryz.prog 9 #[.pointer (some ⟨p, 0, none⟩)] w (Ret fun v w' => v = .int .i64 0 ∧ ∃ G', CacheAt G' κ μ w' p lq came c.commit ∧ Ext (fun x => x = κ ∨ x = μ) G w G' w') := by
  obtain ⟨hok, hM⟩ := id h
  obtain ⟨k1, k2, k3, k4, dm, cm, rv, k5, k6, k7, k8, k9, k10, k11⟩ := id hM
  obtain ⟨es, clk, hes, hdo, hdf, hmok, hq1, hq2⟩ := id k9
  have hκ0 : κ ≠ 0 := k4.1
  have hc2 : w.cell? ⟨p, 2, none⟩ = some (.map (some dm)) := by rw [cell_block k5]; rfl
  apply enter9
  apply R_in
  simp (maxSteps := 1000000) (disch := omega) only [↓sy1, sy2, sy3, readOK, sy5, sy6, Nat.reduceEqDiff, ↓reduceIte, sy7, sy8, sy9, sya, oneOf, syb, syc, Nat.reduceAdd, Nat.reduceMul, syd, sye, syf, syg, syh, reduceCtorEq, F9, hc2]
  refine range_rule (m := dm) (by simp only [upd_at, Nat.reduceEqDiff, reduceIte, ev_tmp, ev_const, List.map_cons, List.map_nil]) underM hes ?_
  have hg1 : Grow w (w.alloc (.mapIter (some dm) clk #[] clk)) := (Keep.refl _ _).alloc _
  have hr1 := heap_alloc_new w (.mapIter (some dm) clk #[] clk)
  have hs1 : (w.alloc (.mapIter (some dm) clk #[] clk)).heap.size = w.heap.size + 1 := by simp
  generalize w.alloc (.mapIter (some dm) clk #[] clk) = w1 at hg1 hr1 hs1 ⊢
  simp (maxSteps := 1000000) (disch := omega) only [↓sy1, sy2, sy3, readOK, sy5, sy6, Nat.reduceEqDiff, ↓reduceIte, sy7, sy8, sy9, sya, oneOf, syb, syc, Nat.reduceAdd, Nat.reduceMul, syd, sye, syf, syg, syh, reduceCtorEq]
  refine mloop_rule (r := w.heap.size) (m := dm) (clk := clk) (es := es) (fun seen e w' => ∃ (ps : List Pg) (xs : List Value), e 0 = .pointer (some ⟨p, 0, none⟩) ∧ e 13 = .pointer (some ⟨w.heap.size, 0, none⟩) ∧ Grow w w' ∧ w'.ownsRow (w.heap.size + 1) 79 2 (e 3) ps.length xs ∧ w.heap.size + 1 ≤ w'.heap.size ∧
      xs.length = 2 * ps.length ∧ (∀ i (h : i < ps.length), xs[2 * i]? = some (.int .i64 ps[i].1) ∧ ∃ u, xs[2 * i + 1]? = some u ∧ HasZ G w u ps[i].2) ∧ SeenP es.toList seen c.q ps)
    hr1 ⟨[], [], by simp [upd, updO, ev], by simp [upd, updO, ev], hg1, by simpa [upd, updO, ev] using World.ownsRow_nil w1 _ _ _, by omega, rfl, by simp, SeenP.nil _ _⟩ ?_
  rintro seen e w2 hr2 ⟨ps, xs, e0, e13, hg2, ho2, hs2, hxl, hxs, hseen⟩
  have hfew := hseen.few hok
  simp (maxSteps := 1000000) (disch := omega) only [↓sy1, sy2, sy3, readOK, sy5, sy6, Nat.reduceEqDiff, ↓reduceIte, sy7, sy8, sy9, sya, oneOf, syb, syc, Nat.reduceAdd, Nat.reduceMul, syd, sye, syf, syg, syh, reduceCtorEq, F9_L0, e0, e13]
  refine next_rule (by simp only [upd_at, Nat.reduceEqDiff, reduceIte, ev_tmp, ev_const, List.map_cons, List.map_nil, e13]) hr2 (hg2.gheap hes) hmok (fun hend => ?_) (fun y hy hyn w3 hk3 hr3 => ?_)
  · have hgrp := hseen.group hok hend hq2
    obtain ⟨hcode, hdone⟩ := Csh.group_code hok hgrp
    have hp2 := hg2.gheap k5
    have hc0 : w2.cell? ⟨p, 0, none⟩ = some (.pointer (some ⟨lq, 0, none⟩)) := by rw [cell_block hp2]; rfl
    have hx2 : Ext0 G w (G.new w.heap.size) w2 := .newB hg2
    have hM2 := hM.ext hx2 id id id
    have hP : PagesH (G.new w.heap.size) κ w2 (e 3) ps xs := by
      refine ⟨Has.own ho2, hxl, fun b hb _ => ?_, fun i hi => ?_⟩
      · obtain ⟨h1, h2⟩ := World.ownsRow.lt ho2 b hb
        exact ⟨h2, by rw [Gh.new_own (by omega)]; exact hκ0.symm⟩
      · obtain ⟨h1, u, h2, h3⟩ := hxs i hi
        exact ⟨h1, u, h2, (h3.ext hx2).held hκ0⟩
    simp (maxSteps := 1000000) (disch := omega) only [↓sy1, sy2, sy3, readOK, sy5, sy6, Nat.reduceEqDiff, ↓reduceIte, sy7, sy8, sy9, sya, oneOf, syb, syc, Nat.reduceAdd, Nat.reduceMul, syd, sye, syf, syg, syh, reduceCtorEq, e0, hc0]
    refine call0 (commit_spec hM2.log hP (by omega) ho) ?_
    rintro _ w3 ⟨rfl, G3, hl3, hx3⟩
    rw [hcode]
    rw [hdone] at hl3
    have hM3 := hM2.put hx3 hl3
    obtain ⟨m1, m2, m3, m4, dm', cm', rv', m5, m6, m7, m8, m9, m10, m11⟩ := hM3
    have hc2' : w3.cell? ⟨p, 2, none⟩ = some (.map (some dm')) := by rw [cell_block m5]; rfl
    simp (maxSteps := 1000000) (disch := omega) only [↓sy1, sy2, sy3, readOK, sy5, sy6, Nat.reduceEqDiff, ↓reduceIte, sy7, sy8, sy9, sya, oneOf, syb, syc, Nat.reduceAdd, Nat.reduceMul, syd, sye, syf, syg, syh, reduceCtorEq, e0, hc2', decide_true]
    refine m9.clear (by simp only [upd_at, Nat.reduceEqDiff, reduceIte, ev_tmp, ev_const, List.map_cons, List.map_nil]) underM (fun w4 hx4 hk4 h9' => ?_)
    have hpm : p ≠ dm' := fun hc => by
      obtain ⟨es, clk, r1, _⟩ := m9
      rw [← hc, m5] at r1; cases r1
    have hdo' : G3.own dm' = μ ∧ G3.fix dm' = 0 := by obtain ⟨es, clk, _, r2, r3, _⟩ := m9; exact ⟨r2, r3⟩
    have hrow : RowI G3 μ w4 rv' c.row := m11.keep1 hk4 (by
      obtain ⟨es, clk, r1, _⟩ := m9
      exact m11.ne r1 (fun c t f hc => by cases hc))
    simp (maxSteps := 1000000) (disch := omega) only [↓sy1, sy2, sy3, readOK, sy5, sy6, Nat.reduceEqDiff, ↓reduceIte, sy7, sy8, sy9, sya, oneOf, syb, syc, Nat.reduceAdd, Nat.reduceMul, syd, sye, syf, syg, syh, reduceCtorEq]
    refine R_out ⟨G3, ⟨hok.commit ?_, m1, m2, m3, m4.ext hx4 m1 (fun h => m2 h.symm), dm', cm', rv', hk4.heap m5 hpm, m6, m7, m8, h9', ?_, hrow⟩, ?_⟩
    · exact hl3.cells.choose_spec.1.ok
    · show BMap G3 μ w4 cm' (cleanQ c.commit.D c.size c.row)
      rw [Csh.commit_clean hok]
      exact m10.keep1 hk4 (fun h => m8 h.symm) hdo'.1 hdo'.2
    · exact ((hx2.mono (κ' := fun x => x = κ ∨ x = μ) (fun _ h => h.elim)).trans (hx3.mono (fun _ h => .inl h))).trans (hx4.mono (fun _ h => .inr h))
  · obtain ⟨n, b, hyk, hyq, hyv⟩ := hq1 y hy
    have hbc := hyv.1.1.isCell
    have hg3 : Grow w w3 := hg2.then hk3 (fun b hb h => by omega)
    have ho3 := own_keepk ho2 hk3 (fun b hb hbr => by have := (World.ownsRow.lt ho2 b hb).1; omega)
    have hs3 := hk3.size
    simp (maxSteps := 1000000) (disch := omega) only [↓sy1, sy2, sy3, readOK, sy5, sy6, Nat.reduceEqDiff, ↓reduceIte, sy7, sy8, sy9, sya, oneOf, syb, syc, Nat.reduceAdd, Nat.reduceMul, syd, sye, syf, syg, syh, reduceCtorEq]
    refine entry_rule (by simp only [upd_at, Nat.reduceEqDiff, reduceIte, ev_tmp, ev_const, List.map_cons, List.map_nil, e13]) hr3 (hg3.gheap hes) hmok hy ?_
    simp (maxSteps := 1000000) (disch := omega) only [↓sy1, sy2, sy3, readOK, sy5, sy6, Nat.reduceEqDiff, ↓reduceIte, sy7, sy8, sy9, sya, oneOf, syb, syc, Nat.reduceAdd, Nat.reduceMul, syd, sye, syf, syg, syh, reduceCtorEq, hyk, fill_gen, fillF_2 (a := .int .i64 0) (b := .slice none 0 0) (u := .int .i64 (n : Int)) rfl hbc, fill_of2, fillF_p (a := .int .i64 0) (b := .slice none 0 0)]
    have hgap : Grow w3 (w3.alloc (.cells #[.int .i64 (n : Int), y.val] 79)) := (Keep.refl _ _).alloc _
    refine app_own elemPg (by simp only [upd_at, Nat.reduceEqDiff, reduceIte, ev_tmp, ev_const, List.map_cons, List.map_nil]) (by simp only [upd_at, Nat.reduceEqDiff, reduceIte, ev_tmp, ev_const, List.map_cons, List.map_nil]) (own_keepk ho3 hgap (fun _ _ => id)) Has.newp (m := 1) rfl (by simpa [isCell] using hbc) (by omega) (by omega) (by have := hgap.size; omega) ?_
    intro out' w4 ho4 hg4
    simp (maxSteps := 1000000) (disch := omega) only [↓sy1, sy2, sy3, readOK, sy5, sy6, Nat.reduceEqDiff, ↓reduceIte, sy7, sy8, sy9, sya, oneOf, syb, syc, Nat.reduceAdd, Nat.reduceMul, syd, sye, syf, syg, syh, reduceCtorEq]
    have hk4 : Keep (fun b => some b = (e 3).ownBlock) w3 w4 := (Keep.grow hgap).trans (Keep.grown hg4)
    have hr4 := hk4.heap hr3 (fun hc => by have := (World.ownsRow.lt ho3 _ hc.symm).1; omega)
    refine R_out (MStep.mk hr2 hy hyn hr4 ⟨ps ++ [((n : Int), b)], xs ++ [.int .i64 n, y.val], by simp [upd, e0], by simp [upd, e13], hg3.then hk4 (fun b hb hc => by have := (World.ownsRow.lt ho3 b hc.symm).1; omega), by simpa [upd] using ho4, by have := hk4.size; omega, by simp [hxl]; omega, ?_, hseen.snoc hmok hy hyn hyk hyq⟩)
    intro j hj
    by_cases hji : j < ps.length
    · obtain ⟨h5, u', h6, h7⟩ := hxs j hji
      rw [List.getElem_append_left hji, List.getElem?_append_left (by omega), List.getElem?_append_left (by omega)]
      exact ⟨h5, u', h6, h7⟩
    · have hje : j = ps.length := by simp at hj; omega
      subst hje
      rw [List.getElem_append_right (Nat.le_refl _), List.getElem?_append_right (by omega), List.getElem?_append_right (by omega), show 2 * ps.length - xs.length = 0 from by omega, show 2 * ps.length + 1 - xs.length = 1 from by omega]
      simp only [Nat.sub_self, List.getElem_cons_zero]
      exact ⟨rfl, y.val, rfl, hyv⟩
end
end Go.Proofs.YtienelpepioggaaGreat

/- A cache: it is made; what it tells; a nil one. -/
namespace Go.Proofs.YtienelpepioggaaGreat
open Go
set_option linter.unusedSimpArgs false
open Go.RowKit (intOf)
section
variable {G : Gh} {κ μ p lq came : Nat} {w : World} {c : Csh}
theorem zs_rise {l : List Nat} (h : l.Pairwise (· < ·)) : (zs l).Pairwise (· < ·) := by
  rw [zs, List.pairwise_map]; exact h.imp (fun hab => by omega)
theorem zs_nodup {l : List Nat} (h : l.Nodup) : (zs l).Nodup := by
  unfold List.Nodup at h ⊢
  rw [zs, List.pairwise_map]; exact h.imp (fun hab => by omega)
theorem cdirty_spec (h : CacheAt G κ μ w p lq came c) :
    Calls Tryz.prog 52 #[.pointer (some ⟨p, 0, none⟩)] w (Ret fun v w' => w'.ownsRow w.heap.size 3 1 v c.dirty.length (ints (zs c.dirty)) ∧ Grow w w') := by
  obtain ⟨hok, hM⟩ := h
  obtain ⟨k1, k2, k3, k4, dm, cm, rv, k5, k6, k7, k8, k9, k10, k11⟩ := hM
  obtain ⟨es, clk, hes, hdo, hdf, hmok, hq⟩ := k9
  have hc2 : w.cell? ⟨p, 2, none⟩ = some (.map (some dm)) := by rw [cell_block k5]; rfl
  have hroom := hok.room
  simp only [Csh.cap] at hroom
  have hmost := hok.ok.most
  have hN : c.N = c.D.first.length - c.size - 1 := rfl
  obtain ⟨ks, hks, hperm⟩ := hq.keys hmok (N := c.N) (fun n b hb => (hok.q n b hb).1)
  have hkl : ks.length = c.dirty.length := hperm.length_eq
  apply enter52
  apply R_in
  simp (maxSteps := 1000000) (disch := omega) only [↓sy1, sy2, sy3, readOK, sy5, sy6, Nat.reduceEqDiff, ↓reduceIte, sy7, sy8, sy9, sya, oneOf, syb, syc, Nat.reduceAdd, Nat.reduceMul, syd, sye, syf, syg, syh, reduceCtorEq, F52, hc2]
  refine call0 keys_spec ?_
  rintro _ w1 ⟨rfl, rfl⟩
  have hg1 : Grow w (w.alloc (.cells #[.map (some dm)] 64)) := (Keep.refl _ _).alloc _
  have hb1 := heap_alloc_new w (.cells #[.map (some dm)] 64)
  generalize w.alloc (.cells #[.map (some dm)] 64) = w1 at hg1 hb1 ⊢
  simp (maxSteps := 1000000) (disch := omega) only [↓sy1, sy2, sy3, readOK, sy5, sy6, Nat.reduceEqDiff, ↓reduceIte, sy7, sy8, sy9, sya, oneOf, syb, syc, Nat.reduceAdd, Nat.reduceMul, syd, sye, syf, syg, syh, reduceCtorEq]
  refine call0 (sorted_spec (ks := zs ks) (by rw [cell_block hb1]; rfl) (hg1.gheap hes) hmok hks (fun a ha => ?_) (by simp; omega)) ?_
  · obtain ⟨n, hn, rfl⟩ := List.mem_map.1 ha
    have := (mem_keysQ.1 (hperm.mem_iff.1 hn)).1
    omega
  rintro v w2 ⟨hv, hg2⟩
  have hsort : sortI (zs ks) = zs c.dirty := sortI_eq (zs_nodup (hperm.nodup_iff.2 (nodup_lt (keysQ_rise _ _)))) (zs_rise (keysQ_rise _ _)) (fun a => by
    simp only [zs, List.mem_map]
    constructor
    · rintro ⟨n, hn, rfl⟩; exact ⟨n, hperm.mem_iff.1 hn, rfl⟩
    · rintro ⟨n, hn, rfl⟩; exact ⟨n, hperm.mem_iff.2 hn, rfl⟩)
  rw [hsort, show (zs ks).length = c.dirty.length from by simpa [zs] using hkl] at hv
  simp (maxSteps := 1000000) (disch := omega) only [↓sy1, sy2, sy3, readOK, sy5, sy6, Nat.reduceEqDiff, ↓reduceIte, sy7, sy8, sy9, sya, oneOf, syb, syc, Nat.reduceAdd, Nat.reduceMul, syd, sye, syf, syg, syh, reduceCtorEq]
  exact R_out ⟨own_base hv hg1.size, hg1.trans hg2⟩
end
/-- A new cache. -/
def Csh.new (D : Dsk) (size most : Nat) : Csh := ⟨D, size, most, fun _ => none, []⟩
theorem Csh.new_ok {D : Dsk} {size most : Nat} (hD : D.Ok) (s1 : 1 ≤ size) (s2 : size + 2 ≤ D.first.length) (m1 : 1 ≤ most) (m2 : most ≤ 64) (hf : Flat D) (hc : Calm D) : (Csh.new D size most).Ok :=
  ⟨hD, s1, s2, m1, m2, fun n b hb => (by cases hb), by rw [show (Csh.new D size most).dirty = [] from keysQ_none _]; exact Nat.zero_le _, List.nodup_nil, Nat.zero_le _, fun n hn => (by cases hn), hf, hc⟩
theorem fillF_cache {a b c d e x y z u : Value} (hx : isCell x = true) (hy : isCell y = true) (hz : isCell z = true) (hu : isCell u = true) : fillF #[a, b, c, d, e] [(0, 1, x), (1, 1, y), (2, 1, z), (3, 1, u)] = some #[x, y, z, u, e] := by
  rw [fillF_cell hx (by simp), fillF_cell hy (by simp), fillF_cell hz (by simp), fillF_cell hu (by simp), fillF_nil]; simp
theorem agg5_cells {x y z u v : Value} (hx : isCell x = true) (hy : isCell y = true) (hz : isCell z = true) (hu : isCell u = true) (hv : isCell v = true) : (Value.agg #[x, y, z, u, v]).cells = #[x, y, z, u, v] := by
  simp [Value.cells, isCell_cells hx, isCell_cells hy, isCell_cells hz, isCell_cells hu, isCell_cells hv]
theorem cnew_spec {G : Gh} {κ : Nat} {w : World} {lq size came most : Nat} {D : Dsk} (μ : Nat) (hμ : μ ≠ 0) (hκ : κ ≠ μ) (h : LogAt G κ w lq size came D) (hf : Flat D) (hc : Calm D) (m1 : 1 ≤ most) (m2 : most ≤ 64) :
    Calls Tryz.prog 6 #[.pointer (some ⟨lq, 0, none⟩), .int .i64 most] w (Ret fun v w' => ∃ p G', v = .tuple #[.pointer (some ⟨p, 0, none⟩), .int .i64 0] ∧ w.heap.size ≤ p ∧ CacheAt G' κ μ w' p lq came (Csh.new D size most) ∧ Ext0 G w G' w') := by
  have hD := h.cells.choose_spec.1.ok
  have s1 := h.2.1
  have s2 := h.2.2.1
  apply enter6
  apply R_in
  simp (maxSteps := 1000000) (disch := omega) only [↓sy1, sy2, sy3, readOK, sy5, sy6, Nat.reduceEqDiff, ↓reduceIte, sy7, sy8, sy9, sya, oneOf, syb, syc, Nat.reduceAdd, Nat.reduceMul, syd, sye, syf, syg, syh, reduceCtorEq, F6, show ¬ ((most : Int) < 1) from by omega, show ¬ ((64 : Int) < (most : Int)) from by omega, decide_false, fill_gen, fillF_cache (x := .pointer (some ⟨lq, 0, none⟩)) (y := .int .i64 most) (z := .map (some w.heap.size)) (u := .map (some (w.alloc (.map #[] 0)).heap.size)) rfl rfl rfl rfl,
    agg5_cells (x := .pointer (some ⟨lq, 0, none⟩)) (y := .int .i64 most) (z := .map (some w.heap.size)) (u := .map (some (w.alloc (.map #[] 0)).heap.size)) (v := .slice none 0 0) rfl rfl rfl rfl rfl]
  have hg1 : Grow w (w.alloc (.map #[] 0)) := (Keep.refl _ _).alloc _
  have hm1 := heap_alloc_new w (.map #[] 0)
  have hs1 : (w.alloc (.map #[] 0)).heap.size = w.heap.size + 1 := by simp
  generalize w.alloc (.map #[] 0) = w1 at hg1 hm1 hs1 ⊢
  have hg2 : Grow w1 (w1.alloc (.map #[] 0)) := (Keep.refl _ _).alloc _
  have hm2 := heap_alloc_new w1 (.map #[] 0)
  have hs2 : (w1.alloc (.map #[] 0)).heap.size = w1.heap.size + 1 := by simp
  generalize w1.alloc (.map #[] 0) = w2 at hg2 hm2 hs2 ⊢
  have hg3 : Grow w2 (w2.alloc (.cells #[.pointer (some ⟨lq, 0, none⟩), .int .i64 most, .map (some w.heap.size), .map (some w1.heap.size), .slice none 0 0] 66)) := (Keep.refl _ _).alloc _
  have hp := heap_alloc_new w2 (.cells #[.pointer (some ⟨lq, 0, none⟩), .int .i64 most, .map (some w.heap.size), .map (some w1.heap.size), .slice none 0 0] 66)
  generalize w2.alloc (.cells #[.pointer (some ⟨lq, 0, none⟩), .int .i64 most, .map (some w.heap.size), .map (some w1.heap.size), .slice none 0 0] 66) = w3 at hg3 hp ⊢
  have hgw : Grow w w3 := (hg1.trans hg2).trans hg3
  have hx : Ext0 G w (G.upto w.heap.size (fun _ => μ) (fun _ => 0)) w3 := .upto hgw _ _
  have hno : ∀ b, w.heap.size ≤ b → (G.upto w.heap.size (fun _ => μ) (fun _ => 0)).own b = μ ∧ (G.upto w.heap.size (fun _ => μ) (fun _ => 0)).fix b = 0 := fun b hb => by simp [Gh.upto, Nat.not_lt.2 hb]
  refine R_out ⟨w2.heap.size, _, rfl, by omega, ⟨Csh.new_ok hD s1 s2 m1 m2 hf hc, hκ, hμ, by simp [Csh.new], h.ext hx id id, w.heap.size, w1.heap.size, .slice none 0 0, hp, (hno _ (by omega)).1, (hno _ (by omega)).2, by omega,
    .new ((hg2.trans hg3).gheap hm1) (hno _ (by omega)).1 (hno _ (by omega)).2, ?_, ?_⟩, hx⟩
  · have : cleanQ (Csh.new D size most).D (Csh.new D size most).size (Csh.new D size most).row = fun _ => none := by funext k; simp [cleanQ, Csh.new]
    rw [this]
    exact .new (hg3.gheap hm2) (hno _ (by omega)).1 (hno _ (by omega)).2
  · exact ⟨World.ownsRow_nil w3 _ _ _, fun b hb => (by cases hb)⟩
/-! A nil cache. -/
section
variable {w : World}
end
end Go.Proofs.YtienelpepioggaaGreat

/- Pages of a cache, in plain words. -/
namespace Go.Proofs.YtienelpepioggaaGreat
open Go
set_option linter.unusedSimpArgs false
section
variable {c : Csh} {n m : Nat} {b : List UInt8}
theorem Csh.write_N (c : Csh) (n : Nat) (b : List UInt8) : (c.write n b).N = c.N := rfl
theorem Csh.write_page (c : Csh) (n m : Nat) (b : List UInt8) : (c.write n b).page m = if m = n then b else c.page m := by
  simp only [Csh.page, Csh.write, qput]
  split <;> rfl
theorem Csh.commit_N (c : Csh) : c.commit.N = c.N := by simp only [Csh.N, Csh.commit_first]; rfl
theorem Csh.commit_page (hc : c.Ok) (hn : n < c.N) : c.commit.page n = c.page n := by
  rw [← Csh.commit_image hc hn]; rfl
theorem Csh.dirty_commit (c : Csh) : c.commit.dirty = [] := keysQ_none _
theorem Csh.new_dirty (D : Dsk) (size most : Nat) : (Csh.new D size most).dirty = [] := keysQ_none _
theorem Csh.page_length (hc : c.Ok) (hn : n < c.N) : (c.page n).length = 512 := by
  unfold Csh.page
  cases hq : c.q n with
  | none => exact page_len hc hn
  | some b => exact (hc.q n b hq).2
end
theorem Csh.commit_ops {c : Csh} (hc : c.Ok) : c.commit.D.ops.length ≤ c.D.ops.length + 206 ∧ c.D.ops.length ≤ c.commit.D.ops.length := by
  have hroom := hc.room
  simp only [Csh.cap] at hroom
  have hl := c.dirtyL_length
  unfold Csh.commit
  simp only
  split
  · omega
  · rw [grouped_ops]; omega
end Go.Proofs.YtienelpepioggaaGreat

/- What is taken and what is free, in plain words. -/
namespace Go.Proofs.YtienelpepioggaaGreat
open Go
set_option linter.unusedSimpArgs false
/-- A bit of a page. -/
def bitB (b : List UInt8) (i : Nat) : Bool := (b.getD (i / 8) 0).toNat.testBit (i % 8)
def flip1 (x : UInt8) (j : Nat) : UInt8 := UInt8.ofNat (x.toNat ^^^ 2 ^ j)
def flipB (b : List UInt8) (i : Nat) : List UInt8 := b.set (i / 8) (flip1 (b.getD (i / 8) 0) (i % 8))
def bitsOf (b : List UInt8) (n : Nat) : List Bool := (List.range n).map (bitB b)
theorem flip1_bit {x : UInt8} {j m : Nat} (hj : j < 8) : (flip1 x j).toNat.testBit m = if m = j then !x.toNat.testBit j else x.toNat.testBit m := by
  have hx : x.toNat < 2 ^ 8 := x.toNat_lt
  have h2 : 2 ^ j < 2 ^ 8 := Nat.pow_lt_pow_right (by omega) hj
  have h3 := Nat.xor_lt_two_pow hx h2
  unfold flip1
  rw [UInt8.toNat_ofNat', Nat.mod_eq_of_lt h3, Nat.testBit_xor, Nat.testBit_two_pow]
  by_cases h : m = j
  · subst h; simp
  · rw [if_neg h, decide_eq_false (Ne.symm h)]; simp
theorem flipB_length (b : List UInt8) (i : Nat) : (flipB b i).length = b.length := by simp [flipB]
theorem bitB_flip {b : List UInt8} {i j : Nat} (h : i / 8 < b.length) : bitB (flipB b i) j = if j = i then !bitB b i else bitB b j := by
  unfold bitB flipB
  by_cases hd : j / 8 = i / 8
  · rw [hd, List.getD_eq_getElem?_getD, List.getElem?_set_self h, Option.getD_some, flip1_bit (by omega)]
    by_cases hm : j % 8 = i % 8
    · rw [if_pos hm, if_pos (by omega)]
    · rw [if_neg hm, if_neg (by omega)]
  · rw [List.getD_eq_getElem?_getD, List.getElem?_set_ne (Ne.symm hd), ← List.getD_eq_getElem?_getD, if_neg (by omega)]
theorem bitsOf_length (b : List UInt8) (n : Nat) : (bitsOf b n).length = n := by simp [bitsOf]
theorem bitsOf_get {b : List UInt8} {n i : Nat} (h : i < n) : (bitsOf b n)[i]? = some (bitB b i) := by simp [bitsOf, h]
theorem bitsOf_flip {b : List UInt8} {n i : Nat} (h : i / 8 < b.length) : bitsOf (flipB b i) n = (bitsOf b n).set i (!bitB b i) := by
  apply List.ext_getElem?
  intro j
  by_cases hj : j < n
  · rw [bitsOf_get hj, bitB_flip h, List.getElem?_set]
    by_cases hij : j = i
    · subst hij; rw [if_pos rfl, if_pos rfl, if_pos (by rw [bitsOf_length]; exact hj)]
    · rw [if_neg hij, if_neg (Ne.symm hij), bitsOf_get hj]
  · rw [List.getElem?_eq_none (by rw [bitsOf_length]; omega), List.getElem?_eq_none (by rw [List.length_set, bitsOf_length]; omega)]
/-- The first that is free; the length, if none is. -/
def firstN : List Bool → Nat
  | [] => 0
  | true :: l => firstN l + 1
  | false :: _ => 0
theorem firstN_le : ∀ l : List Bool, firstN l ≤ l.length
  | [] => Nat.le_refl _
  | true :: l => Nat.succ_le_succ (firstN_le l)
  | false :: l => Nat.zero_le _
theorem firstN_lt : ∀ {l : List Bool} {j : Nat}, j < firstN l → l[j]? = some true
  | true :: l, 0, _ => rfl
  | true :: l, j + 1, h => by simpa using firstN_lt (l := l) (j := j) (by simpa [firstN] using h)
theorem firstN_at : ∀ {l : List Bool}, firstN l < l.length → l[firstN l]? = some false
  | true :: l, h => by simpa [firstN] using firstN_at (l := l) (by simpa [firstN] using h)
  | false :: l, _ => rfl
theorem firstN_eq {l : List Bool} {m : Nat} (h : ∀ j < m, l[j]? = some true) (hm : l[m]? = some false) : firstN l = m := by
  rcases Nat.lt_trichotomy (firstN l) m with h1 | h1 | h1
  · have h2 := h _ h1
    have h3 := firstN_at (l := l) (by have := (List.getElem?_eq_some_iff.1 h2).1; exact this)
    rw [h2] at h3; cases h3
  · exact h1
  · rw [firstN_lt h1] at hm; cases hm
theorem firstN_none {l : List Bool} (h : ∀ j < l.length, l[j]? = some true) : firstN l = l.length := by
  rcases Nat.lt_or_ge (firstN l) l.length with h1 | h1
  · have h2 := h _ h1
    rw [firstN_at h1] at h2; cases h2
  · exact Nat.le_antisymm (firstN_le l) h1
theorem firstN_ge {l : List Bool} {m : Nat} (h : ∀ j < m, l[j]? = some true) : m ≤ firstN l := by
  rcases Nat.lt_or_ge (firstN l) m with h1 | h1
  · have h2 := h _ h1
    have h3 := firstN_at (l := l) (List.getElem?_eq_some_iff.1 h2).1
    rw [h2] at h3; cases h3
  · exact h1
/-- What the program's 'first' tells. -/
def firstZ (l : List Bool) : Int := if firstN l < l.length then (firstN l : Int) else -1
/-- How many are free. -/
def freeN (l : List Bool) : Nat := l.count false
theorem freeN_le (l : List Bool) : freeN l ≤ l.length := List.count_le_length
theorem freeN_take {l : List Bool} {i : Nat} {x : Bool} (h : l[i]? = some x) : freeN (l.take (i + 1)) = freeN (l.take i) + if x then 0 else 1 := by
  rw [List.take_add_one, h, freeN, List.count_append]
  cases x <;> simp [freeN]
/-- The superblock. -/
def super4 (n : Nat) : List UInt8 := [UInt8.ofNat (n / 2 ^ 24), UInt8.ofNat (n / 2 ^ 16), UInt8.ofNat (n / 2 ^ 8), UInt8.ofNat n]
def superB (pages inodes : Nat) : List UInt8 := [68, 85, 78, 49] ++ super4 pages ++ super4 inodes ++ List.replicate 500 0
theorem superB_length (a b : Nat) : (superB a b).length = 512 := by
  simp only [superB, List.length_append, List.length_replicate]; rfl
/-- How many inodes may be on so many pages. -/
def mayA (pages : Nat) (inodes : Int) : Prop := 8 ≤ inodes ∧ inodes ≤ 512 ∧ inodes % 8 = 0 ∧ pages ≤ 4096 ∧ 3 + inodes / 8 < pages
instance (pages : Nat) (inodes : Int) : Decidable (mayA pages inodes) := inferInstanceAs (Decidable (_ ∧ _ ∧ _ ∧ _ ∧ _))
/-- A map on a cache's pages. -/
structure Alc (c : Csh) (P I : List Bool) : Prop where
  s : c.page 0 = superB c.N I.length
  p : bitsOf (c.page 2) c.N = P
  i : bitsOf (c.page 1) I.length = I
  may : mayA c.N I.length
  resv : ∀ j, j < 3 + I.length / 8 → P[j]? = some true
  root : I[0]? = some true
section
variable {c : Csh} {P I : List Bool}
theorem Alc.plen (h : Alc c P I) : P.length = c.N := by rw [← h.p, bitsOf_length]
theorem Alc.congr {c' : Csh} (h : Alc c P I) (hN : c'.N = c.N) (hp : ∀ n < 3, c'.page n = c.page n) : Alc c' P I :=
  ⟨by rw [hp 0 (by omega), hN]; exact h.s, by rw [hp 2 (by omega), hN]; exact h.p, by rw [hp 1 (by omega)]; exact h.i, by rw [hN]; exact h.may, h.resv, h.root⟩
theorem Alc.write (h : Alc c P I) {n : Nat} {b : List UInt8} (hn : 3 ≤ n) : Alc (c.write n b) P I :=
  h.congr rfl fun m hm => by rw [Csh.write_page, if_neg (by omega)]
theorem Alc.commit (h : Alc c P I) (hc : c.Ok) : Alc c.commit P I := by
  have hm := h.may
  unfold mayA at hm
  exact h.congr (Csh.commit_N c) fun m hm' => Csh.commit_page hc (by omega)
theorem Alc.first (h : Alc c P I) : 3 + I.length / 8 ≤ firstN P := firstN_ge h.resv
theorem Alc.first1 (h : Alc c P I) : 1 ≤ firstN I := firstN_ge fun j hj => by rw [show j = 0 by omega]; exact h.root
theorem set_mono {l : List Bool} {n m : Nat} (hn : n ≠ m) {b : Bool} : (l.set n b)[m]? = l[m]? := List.getElem?_set_ne hn
theorem Alc.flipP (h : Alc c P I) (hl : (c.page 2).length = 512) {n : Nat} {x : Bool} (hn : 3 + I.length / 8 ≤ n) (hx : P[n]? = some x) : Alc (c.write 2 (flipB (c.page 2) n)) (P.set n (!x)) I := by
  have hlt := (List.getElem?_eq_some_iff.1 hx).1
  rw [h.plen] at hlt
  have hm := h.may
  unfold mayA at hm
  have hb : bitB (c.page 2) n = x := by
    have h1 := bitsOf_get (b := c.page 2) hlt
    rw [h.p, hx] at h1; exact (Option.some.inj h1).symm
  refine ⟨?_, ?_, ?_, h.may, fun j hj => ?_, h.root⟩
  · rw [Csh.write_page, if_neg (by omega)]; exact h.s
  · rw [Csh.write_page, if_pos rfl, Csh.write_N, bitsOf_flip (by omega), h.p, hb]
  · rw [Csh.write_page, if_neg (by omega)]; exact h.i
  · rw [set_mono (by omega)]; exact h.resv j hj
theorem Alc.flipI (h : Alc c P I) (hl : (c.page 1).length = 512) {n : Nat} {x : Bool} (hn : 1 ≤ n) (hx : I[n]? = some x) : Alc (c.write 1 (flipB (c.page 1) n)) P (I.set n (!x)) := by
  have hlt := (List.getElem?_eq_some_iff.1 hx).1
  have hm := h.may
  unfold mayA at hm
  have hb : bitB (c.page 1) n = x := by
    have h1 := bitsOf_get (b := c.page 1) hlt
    rw [h.i, hx] at h1; exact (Option.some.inj h1).symm
  refine ⟨?_, ?_, ?_, by rw [List.length_set]; exact h.may, fun j hj => h.resv j (by simpa using hj), ?_⟩
  · rw [Csh.write_page, if_neg (by omega), List.length_set]; exact h.s
  · rw [Csh.write_page, if_neg (by omega)]; exact h.p
  · rw [Csh.write_page, if_pos rfl, List.length_set, bitsOf_flip (by omega), h.i, hb]
  · rw [set_mono (by omega)]; exact h.root
/-- A page that is taken; one that is given back; an inode. -/
def Csh.turnP (c : Csh) (n : Nat) : Csh := c.write 2 (flipB (c.page 2) n)
def Csh.turnI (c : Csh) (n : Nat) : Csh := c.write 1 (flipB (c.page 1) n)
def Csh.taken (c : Csh) (n : Nat) : Csh := (c.turnP n).write n zsec
theorem Alc.taken (h : Alc c P I) (hl : (c.page 2).length = 512) (hn : firstN P < P.length) : Alc (c.taken (firstN P)) (P.set (firstN P) true) I := by
  have hf := h.first
  exact (h.flipP hl hf (firstN_at hn)).write (by omega)
/-- What would be put, put: the keys behind it. -/
def insK (S : List Int) (n : Int) : List Int := if n ∈ S then S else S ++ [n]
def fitK (c : Csh) (l : List Int) : List Int := l.foldl insK (zs c.dirty)
def Csh.fits (c : Csh) (l : List Int) : Bool := decide ((fitK c l).length ≤ c.cap)
theorem insK_length (S : List Int) (n : Int) : (insK S n).length ≤ S.length + 1 ∧ S.length ≤ (insK S n).length := by
  unfold insK; split <;> simp
theorem fold_length : ∀ (l : List Int) (S : List Int), (l.foldl insK S).length ≤ S.length + l.length ∧ S.length ≤ (l.foldl insK S).length
  | [], S => by simp
  | a :: l, S => by
    have h1 := fold_length l (insK S a)
    have h2 := insK_length S a
    simp only [List.foldl_cons, List.length_cons]; omega
theorem fits_room {l : List Int} (h : c.dirty.length + l.length ≤ c.cap) : c.fits l = true := by
  have h1 := fold_length l (zs c.dirty)
  have h2 : (zs c.dirty).length = c.dirty.length := by simp [zs]
  unfold Csh.fits fitK
  rw [decide_eq_true_eq]; omega
end
end Go.Proofs.YtienelpepioggaaGreat

/- A map of which the keys alone matter. -/
namespace Go.Proofs.YtienelpepioggaaGreat
open Go
set_option linter.unusedSimpArgs false
theorem set_map {β : Type} {es : List MapEntry} {j : Nat} {y : MapEntry} (v : Value) (hj : es[j]? = some y) (f : MapEntry → β) (hf : f { y with val := v } = f y) : (es.set j { y with val := v }).map f = es.map f := by
  obtain ⟨hjl, hjy⟩ := List.getElem?_eq_some_iff.1 hj
  rw [List.map_set, hf, ← hjy, ← List.getElem_map (f := f) (h := by simpa using hjl)]
  exact List.set_getElem_self _
theorem MapOk.setv {es : List MapEntry} {clk j : Nat} {y : MapEntry} {v : Value} (h : MapOk es clk) (hj : es[j]? = some y) : MapOk (es.set j { y with val := v }) clk := by
  refine ⟨?_, ?_, fun z hz => ?_⟩
  · have h6 := h.keys
    rw [← List.pairwise_map (f := fun e : MapEntry => e.key) (R := fun a b => a ≠ b)] at h6 ⊢
    rw [set_map v hj _ rfl]; exact h6
  · have h6 := h.born
    rw [← List.pairwise_map (f := fun e : MapEntry => e.born) (R := fun a b => a ≠ b)] at h6 ⊢
    rw [set_map v hj _ rfl]; exact h6
  · rcases List.mem_or_eq_of_mem_set hz with hz | rfl
    · exact h.clk z hz
    · exact h.clk y (List.mem_of_getElem? hj)
/-- The map's keys are these. -/
def KMap (w : World) (m : Nat) (S : List Int) : Prop := ∃ es clk, w.heap[m]? = some (.map es clk) ∧ MapOk es.toList clk ∧ es.toList.map (·.key) = ints S
section
variable {w w' : World} {m : Nat} {S : List Int}
theorem KMap.keep {T : Nat → Prop} (h : KMap w m S) (hk : Keep T w w') (hm : ¬ T m) : KMap w' m S := by
  obtain ⟨es, clk, h1, h2, h3⟩ := h
  exact ⟨es, clk, hk.heap h1 hm, h2, h3⟩
theorem KMap.new {clk : Nat} (hm : w.heap[m]? = some (.map #[] clk)) : KMap w m [] := ⟨#[], clk, hm, ⟨by simp, by simp, by simp⟩, rfl⟩
theorem KMap.len (h : KMap w m S) : lenF w 2 (.map (some m)) = some (.int .i64 S.length) := by
  obtain ⟨es, clk, h1, h2, h3⟩ := h
  have h4 := congrArg List.length h3
  simp [ints] at h4
  rw [lenF_m h1, h4]
theorem keyed_ints {es : List MapEntry} {S : List Int} (h : es.map (·.key) = ints S) : IntKeyed .i64 es := fun y hy => by
  have h1 : y.key ∈ es.map (·.key) := List.mem_map_of_mem hy
  rw [h] at h1
  obtain ⟨n, _, hn⟩ := List.mem_map.1 h1
  exact ⟨n, hn.symm⟩
theorem KMap.put {k : Kont} {e : Env} {l : List GOp} {d : Option Nat} {P : Program} {xm xk xv : Operand} {t kt et ty : TypeId} {kd : IntKind} {n : Int} {v : Value} (h : KMap w m S) (hxm : ev e xm = .map (some m)) (hxk : ev e xk = .int .i64 n) (hxv : ev e xv = v)
    (ht : P.underlying t = some (.map kt et)) (hkt : P.underlying kt = some (.int kd))
    (hh : ∀ w', Keep (fun b => b = m) w w' → KMap w' m (insK S n) → R (symOps P l k (updO e d undef) w')) :
    R (symOps P (⟨d, .hard (H (.mapUpdate t xm xk xv) ty), none⟩ :: l) k e w) := by
  obtain ⟨es, clk, h1, h2, h3⟩ := h
  have hmem : ∀ y ∈ es.toList, ∃ a, a ∈ S ∧ y.key = .int .i64 a := fun y hy => by
    have h4 : y.key ∈ es.toList.map (·.key) := List.mem_map_of_mem hy
    rw [h3] at h4
    obtain ⟨a, ha, hae⟩ := List.mem_map.1 h4
    exact ⟨a, ha, hae.symm⟩
  refine put_rule hxm hxk hxv ht hkt h1 (keyed_ints h3) (fun hno w' hk hm' => ?_) (fun j y hj hyk w' hk hm' => ?_)
  · refine hh w' hk ⟨_, clk + 1, hm', h2.push hno, ?_⟩
    have hn : n ∉ S := fun hn => by
      have h4 : (Value.int .i64 n) ∈ es.toList.map (·.key) := by rw [h3]; exact List.mem_map_of_mem hn
      obtain ⟨y, hy, hyk⟩ := List.mem_map.1 h4
      exact hno y hy hyk
    rw [Array.toList_push, List.map_append, h3, insK, if_neg hn]
    simp [ints]
  · refine hh w' hk ⟨_, clk, hm', by rw [Array.toList_setIfInBounds]; exact h2.setv hj, ?_⟩
    obtain ⟨a, ha, hae⟩ := hmem y (List.mem_of_getElem? hj)
    rw [hyk] at hae
    have hn : n ∈ S := by rw [(Value.int.inj hae).2]; exact ha
    rw [Array.toList_setIfInBounds, set_map v hj _ rfl, h3, insK, if_pos hn]
end
theorem fold_nodup : ∀ (l S : List Int), (S ++ l).Nodup → l.foldl insK S = S ++ l
  | [], S, _ => by simp
  | a :: l, S, h => by
    have hn : a ∉ S := fun ha => by
      rw [List.nodup_append] at h
      exact h.2.2 a ha a (by simp) rfl
    rw [List.foldl_cons, insK, if_neg hn, fold_nodup l (S ++ [a]) (by simpa using h)]
    simp
theorem fold_take {l S : List Int} {i : Nat} (h : i < l.length) : (l.take (i + 1)).foldl insK S = insK ((l.take i).foldl insK S) l[i] := by
  rw [List.take_add_one, List.getElem?_eq_getElem h, List.foldl_append]; rfl
end Go.Proofs.YtienelpepioggaaGreat

/- A cache, whichever pages it holds beside those that were written. -/
namespace Go.Proofs.YtienelpepioggaaGreat
open Go
set_option linter.unusedSimpArgs false
def CacheS (G : Gh) (κ μ : Nat) (w : World) (p lq came : Nat) (c : Csh) : Prop := ∃ row, CacheAt G κ μ w p lq came { c with row := row }
def Csh.OkS (c : Csh) : Prop := ∃ row, ({ c with row := row } : Csh).Ok
section
variable {G G' : Gh} {κ μ p lq came : Nat} {w w' : World} {c : Csh}
theorem CacheAt.s (h : CacheAt G κ μ w p lq came c) : CacheS G κ μ w p lq came c := ⟨c.row, h⟩
theorem CacheS.oks (h : CacheS G κ μ w p lq came c) : c.OkS := let ⟨row, h1⟩ := h; ⟨row, h1.1⟩
theorem CacheS.ne (h : CacheS G κ μ w p lq came c) : κ ≠ μ ∧ μ ≠ 0 ∧ κ ≠ 0 := let ⟨_, h1⟩ := h; ⟨h1.2.ne, h1.2.ne0, h1.2.log.1⟩
theorem CacheS.ext {K : Nat → Prop} (h : CacheS G κ μ w p lq came c) (hx : Ext K G w G' w') (hk : ¬ K κ) (hm : ¬ K μ) (h0 : ¬ K 0) : CacheS G' κ μ w' p lq came c := let ⟨row, h1⟩ := h; ⟨row, h1.ext hx hk hm h0⟩
theorem CacheS.grow (h : CacheS G κ μ w p lq came c) (hg : Grow w w') : CacheS G κ μ w' p lq came c := let ⟨row, h1⟩ := h; ⟨row, h1.grow hg⟩
theorem Csh.OkS.room (h : c.OkS) : c.dirty.length ≤ c.cap := let ⟨_, h1⟩ := h; h1.room
theorem Csh.OkS.plen (h : c.OkS) {n : Nat} (hn : n < c.N) : (c.page n).length = 512 := let ⟨row, h1⟩ := h; Csh.page_length (c := { c with row := row }) h1 hn
theorem Csh.OkS.cpage (h : c.OkS) {n : Nat} (hn : n < c.N) : c.commit.page n = c.page n := let ⟨row, h1⟩ := h; Csh.commit_page (c := { c with row := row }) h1 hn
theorem Csh.OkS.cops (h : c.OkS) : c.commit.D.ops.length ≤ c.D.ops.length + 206 ∧ c.D.ops.length ≤ c.commit.D.ops.length := let ⟨row, h1⟩ := h; Csh.commit_ops (c := { c with row := row }) h1
theorem Csh.OkS.most (h : c.OkS) : c.D.first.length ≤ 4096 := let ⟨_, h1⟩ := h; h1.ok.most
theorem cslog_spec (h : CacheS G κ μ w p lq came c) :
    Calls Tryz.prog 20 #[.pointer (some ⟨p, 0, none⟩)] w (Ret fun v w' => v = .pointer (some ⟨lq, 0, none⟩) ∧ w' = w) := let ⟨_, h1⟩ := h; clog_spec h1
theorem csroom_spec (h : CacheS G κ μ w p lq came c) :
    Calls Tryz.prog 53 #[.pointer (some ⟨p, 0, none⟩)] w (Ret fun v w' => v = .int .i64 ((c.cap : Int) - c.dirty.length) ∧ Grow w w') := let ⟨row, h1⟩ := h; room_spec (c := { c with row := row }) h1
theorem csdirty_spec (h : CacheS G κ μ w p lq came c) :
    Calls Tryz.prog 52 #[.pointer (some ⟨p, 0, none⟩)] w (Ret fun v w' => w'.ownsRow w.heap.size 3 1 v c.dirty.length (ints (zs c.dirty)) ∧ Grow w w') := let ⟨row, h1⟩ := h; cdirty_spec (c := { c with row := row }) h1
theorem csread_strong (h : CacheS G κ μ w p lq came c) {n : Nat} (hn : n < c.N) :
    Calls Tryz.prog 40 #[.pointer (some ⟨p, 0, none⟩), .int .i64 n] w (Ret fun v w' => ∃ u G' w1, v = .tuple #[u, .int .i64 0] ∧ w'.ownsRow w1.heap.size 5 1 u 512 (bs (c.page n)) ∧ CacheS G' κ μ w1 p lq came c ∧ Ext (fun x => x = μ) G w G' w1 ∧ Grow w1 w') := by
  obtain ⟨row, h1⟩ := h
  refine Ret.mono (cread_strong h1 (n := n) hn) fun _ _ ⟨u, G', w1, h1, h2, h3, h4, h5⟩ => ⟨u, G', w1, h1, h2, ?_, h4, h5⟩
  unfold Csh.read at h3
  split at h3
  · exact ⟨row, h3⟩
  · exact ⟨_, h3⟩
theorem csread_spec (h : CacheS G κ μ w p lq came c) {n : Nat} (hn : n < c.N) :
    Calls Tryz.prog 40 #[.pointer (some ⟨p, 0, none⟩), .int .i64 n] w (Ret fun v w' => ∃ u G', v = .tuple #[u, .int .i64 0] ∧ w'.ownsRow w.heap.size 5 1 u 512 (bs (c.page n)) ∧ CacheS G' κ μ w' p lq came c ∧ Ext (fun x => x = μ) G w G' w') :=
  Ret.mono (csread_strong h hn) fun _ _ ⟨u, G', _, h1, h2, h3, h4, h5⟩ => ⟨u, G', h1, own_base h2 h4.size, h3.grow h5, h4.trans (.grow h5)⟩
theorem cswrite_spec (h : CacheS G κ μ w p lq came c) {n : Int} {bv : Value} {b : List UInt8} (hb : HasB w bv b) (hl : b.length ≤ 140737488355328) :
    Calls Tryz.prog 27 #[.pointer (some ⟨p, 0, none⟩), .int .i64 n, bv] w (Ret fun v w' => v = .int .i64 (c.wcode n b.length) ∧ ∃ G', CacheS G' κ μ w' p lq came (if c.wcode n b.length = 0 then c.write n.toNat b else c) ∧ Ext (fun x => x = μ) G w G' w') := by
  obtain ⟨row, h1⟩ := h
  refine Ret.mono (cwrite_spec h1 (n := n) hb hl) fun _ _ ⟨h2, G', h3, h4⟩ => ⟨h2, G', ?_, h4⟩
  have hcode : ({ c with row := row } : Csh).wcode n b.length = c.wcode n b.length := rfl
  rw [hcode] at h3
  split at h3
  · rename_i h0; rw [if_pos h0]; exact ⟨_, h3⟩
  · rename_i h0; rw [if_neg h0]; exact ⟨_, h3⟩
theorem cscommit_spec (h : CacheS G κ μ w p lq came c) (ho : c.D.ops.length < 700000) :
    Calls Tryz.prog 9 #[.pointer (some ⟨p, 0, none⟩)] w (Ret fun v w' => v = .int .i64 0 ∧ ∃ G', CacheS G' κ μ w' p lq came c.commit ∧ Ext (fun x => x = κ ∨ x = μ) G w G' w') := by
  obtain ⟨row, h1⟩ := h
  exact Ret.mono (ccommit_spec h1 ho) fun _ _ ⟨h2, G', h3, h4⟩ => ⟨h2, G', ⟨row, h3⟩, h4⟩
theorem csabort_spec (h : CacheS G κ μ w p lq came c) :
    Calls Tryz.prog 64 #[.pointer (some ⟨p, 0, none⟩)] w (Ret fun v w' => v = .int .i64 c.dirty.length ∧ CacheS G κ μ w' p lq came c.abort ∧ Ext (fun x => x = μ) G w G w') := by
  obtain ⟨row, h1⟩ := h
  exact Ret.mono (abort_spec h1) fun _ _ ⟨h2, h3, h4⟩ => ⟨h2, ⟨row, h3⟩, h4⟩
end
end Go.Proofs.YtienelpepioggaaGreat

/- The map of what is free, in memory; a page of bits is read, looked at, turned. -/
namespace Go.Proofs.YtienelpepioggaaGreat
open Go
set_option linter.unusedSimpArgs false
open Go.RowKit (intOf)
theorem Ext.then {K : Nat → Prop} {G G1 : Gh} {w w1 w2 : World} {g : Nat} (h : Ext K G w G1 w1) (hk : Keep (fun b => b = g) w1 w2) (hg : w.heap.size ≤ g) : Ext K G w G1 w2 :=
  ⟨hk.os.trans h.os, hk.tape.trans h.tape, hk.output.trans h.output, Nat.le_trans h.size hk.size, h.own, h.fix, h.fixe,
    fun b hb hn => (hk.blk b (Nat.lt_of_lt_of_le hb h.size) (by omega)).trans (h.blk b hb hn), fun b i v hb hi hc => hk.cell (h.pre b i v hb hi hc) (fun hh => by simp only at hh; omega)⟩
/-- The map at block m (nobody writes it any more), of a cache of k inodes. -/
structure MapC (G : Gh) (κ μ : Nat) (w : World) (m p lq came : Nat) (c : Csh) (k : Nat) : Prop where
  cache : CacheS G κ μ w p lq came c
  at_ : w.heap[m]? = some (.cells #[.pointer (some ⟨p, 0, none⟩), .int .i64 k] 70 (0, 0))
  own : G.own m = 0
  ne : κ ≠ 6 ∧ μ ≠ 6
  k5 : k ≤ 512
  n3 : 3 ≤ c.N
section
variable {G G' : Gh} {κ μ m p lq came k : Nat} {w w' : World} {c : Csh}
theorem MapC.ext {K : Nat → Prop} (h : MapC G κ μ w m p lq came c k) (hx : Ext K G w G' w') (hk : ¬ K κ) (hm : ¬ K μ) (h0 : ¬ K 0) : MapC G' κ μ w' m p lq came c k :=
  ⟨h.cache.ext hx hk hm h0, hx.heap h.at_ (by rw [h.own]; exact h0), by rw [hx.own m (hx.lt h.at_)]; exact h.own, h.ne, h.k5, h.n3⟩
theorem MapC.grow (h : MapC G κ μ w m p lq came c k) (hg : Grow w w') : MapC G κ μ w' m p lq came c k := h.ext (K := fun _ => False) (.grow hg) id id id
theorem MapC.put {c' : Csh} {K : Nat → Prop} (h : MapC G κ μ w m p lq came c k) (hx : Ext K G w G' w') (h0 : ¬ K 0) (hc : CacheS G' κ μ w' p lq came c') (hN : c'.N = c.N) : MapC G' κ μ w' m p lq came c' k :=
  ⟨hc, hx.heap h.at_ (by rw [h.own]; exact h0), by rw [hx.own m (hx.lt h.at_)]; exact h.own, h.ne, h.k5, by rw [hN]; exact h.n3⟩
theorem MapC.cells (h : MapC G κ μ w m p lq came c k) : w.cell? ⟨m, 0, none⟩ = some (.pointer (some ⟨p, 0, none⟩)) ∧ w.cell? ⟨m, 1, none⟩ = some (.int .i64 k) :=
  ⟨by rw [cell_block h.at_]; rfl, by rw [cell_block h.at_]; rfl⟩
theorem MapC.nine (h : MapC G κ μ w m p lq came c k) : c.N ≤ 4096 := by
  have h1 := h.cache.oks.most
  simp only [Csh.N]; omega
theorem upto_own {G : Gh} {B b o f : Nat} (h : B ≤ b) : (G.upto B (fun _ => o) (fun _ => f)).own b = o ∧ (G.upto B (fun _ => o) (fun _ => f)).fix b = f := by simp [Gh.upto, Nat.not_lt.2 h]
/-- How many bits count on a page. -/
def nbits (c : Csh) (k pg : Nat) : Nat := if pg = 2 then c.N else k
set_option maxHeartbeats 1000000 in
theorem mread_spec (h : MapC G κ μ w m p lq came c k) {pg : Nat} (hpg : pg = 1 ∨ pg = 2) :
    Calls Tryz.prog 61 #[.pointer (some ⟨m, 0, none⟩), .int .i64 pg] w (Ret fun v w' => ∃ u G', v = .agg #[u, .int .i64 (nbits c k pg)] ∧ w'.ownsRow w.heap.size 5 1 u 512 (bs (c.page pg)) ∧ (∀ b, u.ownBlock = some b → G'.own b = 6 ∧ G'.fix b = 0) ∧
      MapC G' κ μ w' m p lq came c k ∧ Ext (fun x => x = μ) G w G' w') := by
  obtain ⟨hne1, hne2, hne3⟩ := h.cache.ne
  have h6 := h.ne
  have hn3 := h.n3
  apply enter61
  apply R_in
  have hg0 : Grow w (w.alloc (.cells (Value.agg #[.slice none 0 0, .int .i64 0]).cells 128)) := (Keep.refl _ _).alloc _
  have hb0 := heap_alloc_new w (.cells (Value.agg #[.slice none 0 0, .int .i64 0]).cells 128)
  have hs0 : (w.alloc (.cells (Value.agg #[.slice none 0 0, .int .i64 0]).cells 128)).heap.size = w.heap.size + 1 := by simp
  simp (maxSteps := 1000000) (disch := omega) only [↓sy1, sy2, sy3, readOK, sy5, sy6, Nat.reduceEqDiff, ↓reduceIte, sy7, sy8, sy9, sya, oneOf, syb, syc, Nat.reduceAdd, Nat.reduceMul, syd, sye, syf, syg, syh, reduceCtorEq, F61, (h.grow hg0).cells.1]
  rw [agg2_cells (x := .slice none 0 0) (y := .int .i64 0) rfl rfl] at hg0 hb0 hs0 ⊢
  generalize w.alloc (.cells #[.slice none 0 0, .int .i64 0] 128) = w0 at hg0 hb0 hs0 ⊢
  have hx0 : Ext0 G w (G.upto w.heap.size (fun _ => 6) (fun _ => 0)) w0 := .upto hg0 _ _
  have h0 := h.ext hx0 id id id
  have ho0 := upto_own (G := G) (o := 6) (f := 0) (Nat.le_refl w.heap.size)
  generalize (G.upto w.heap.size (fun _ => 6) (fun _ => 0)) = G0 at hx0 h0 ho0
  refine call0 (csread_strong h0.cache (n := pg) (by omega)) ?_
  rintro _ w2 ⟨u, G1, w1, rfl, hu, hc1, hx1, hg2⟩
  have hx2 : Ext0 G1 w1 (G1.upto w1.heap.size (fun _ => 6) (fun _ => 0)) w2 := .upto hg2 _ _
  have h1 := h0.put hx1 (by omega) hc1 rfl
  have h2 := h1.ext hx2 id id id
  have hob : ∀ b, u.ownBlock = some b → (G1.upto w1.heap.size (fun _ => 6) (fun _ => 0)).own b = 6 ∧ (G1.upto w1.heap.size (fun _ => 6) (fun _ => 0)).fix b = 0 := fun b hb => upto_own (World.ownsRow.lt hu b hb).1
  have hlt0 : w.heap.size < w0.heap.size := by omega
  have hs1 := hx1.size
  have hbl1 := hx1.heap hb0 (by rw [ho0.1]; omega)
  have hbl2 : (G1.upto w1.heap.size (fun _ => 6) (fun _ => 0)).own w.heap.size = 6 ∧ (G1.upto w1.heap.size (fun _ => 6) (fun _ => 0)).fix w.heap.size = 0 := by
    rw [hx2.own _ (by omega), hx2.fixe _ (by omega) id, hx1.own _ hlt0, hx1.fixe _ hlt0 (by rw [ho0.1]; omega)]; exact ho0
  have hb2 := hg2.gheap hbl1
  generalize (G1.upto w1.heap.size (fun _ => 6) (fun _ => 0)) = G2 at hx2 h2 hob hbl2
  have hx02 : Ext (fun x => x = μ) G w G2 w2 := ((hx0.mono (fun _ h => h.elim)).trans hx1).trans (hx2.mono (fun _ h => h.elim))
  have huc := (Has.own hu).isCell
  have huB := World.ownsRow.lt hu
  have hu' := own_base hu (B' := w.heap.size) (by omega)
  clear hu hc1 hx1 hg2 hx2 h1 h0 hx0 ho0 hbl1
  have key : ∀ w3 nn, Grow w2 w3 → nn = nbits c k pg → ∃ w4, stnF w3 2 (.pointer (some ⟨w.heap.size, 0, none⟩)) (.agg #[u, .int .i64 nn]) = some (undef, w4) ∧
      RC (Tryz.prog.cellsOf 128) (.pointer (some ⟨w.heap.size, 0, none⟩)) (fun v w' => ∃ u G', v = .agg #[u, .int .i64 (nbits c k pg)] ∧ w'.ownsRow w.heap.size 5 1 u 512 (bs (c.page pg)) ∧ (∀ b, u.ownBlock = some b → G'.own b = 6 ∧ G'.fix b = 0) ∧
      MapC G' κ μ w' m p lq came c k ∧ Ext (fun x => x = μ) G w G' w') w4 := fun w3 nn hg3 hnn => by
    have hb3 := hg3.gheap hb2
    obtain ⟨w4, hst, hb4, hk4⟩ := stn2 (x := u) (y := .int .i64 nn) hb3 huc rfl
    have hub : ∀ b, u.ownBlock = some b → b ≠ w.heap.size := fun b hb => by have := (huB b hb).1; omega
    refine ⟨w4, hst, _, [u, .int .i64 nn], rfl, ?_, u, G2, by rw [hnn], own_keep (own_grow hu' hg3) hk4 (fun b hb hh => hub b hb hh), hob, ?_, ?_⟩
    · rw [show Tryz.prog.cellsOf 128 = 2 from by kernel_rfl]
      exact loadN2 (by rw [cell_block hb4]; rfl) (by rw [cell_block hb4]; rfl)
    · exact (h2.grow hg3).ext (.on0 hk4 hbl2.1 hbl2.2) h6.1 h6.2 (by omega)
    · exact (hx02.trans (.grow hg3)).then hk4 (Nat.le_refl _)
  rcases hpg with rfl | rfl
  · obtain ⟨w4, hst, hrc⟩ := key w2 k (Keep.refl _ _) rfl
    simp (maxSteps := 1000000) (disch := omega) only [↓sy1, sy2, sy3, readOK, sy5, sy6, Nat.reduceEqDiff, ↓reduceIte, sy7, sy8, sy9, sya, oneOf, syb, syc, Nat.reduceAdd, Nat.reduceMul, syd, sye, syf, syg, syh, reduceCtorEq, h2.cells, fill_gen, fillF_2 (u := u) (v := .int .i64 (k : Int)) huc rfl, hst, Int.reduceEq, decide_false]
    exact R_out hrc
  · simp (maxSteps := 1000000) (disch := omega) only [↓sy1, sy2, sy3, readOK, sy5, sy6, Nat.reduceEqDiff, ↓reduceIte, sy7, sy8, sy9, sya, oneOf, syb, syc, Nat.reduceAdd, Nat.reduceMul, syd, sye, syf, syg, syh, reduceCtorEq, h2.cells, Int.reduceEq, decide_true]
    refine call0 (cslog_spec h2.cache) ?_
    rintro _ w3 ⟨rfl, rfl⟩
    simp (maxSteps := 1000000) (disch := omega) only [↓sy1, sy2, sy3, readOK, sy5, sy6, Nat.reduceEqDiff, ↓reduceIte, sy7, sy8, sy9, sya, oneOf, syb, syc, Nat.reduceAdd, Nat.reduceMul, syd, sye, syf, syg, syh, reduceCtorEq]
    obtain ⟨row, hca⟩ := h2.cache
    refine call0 (pages_spec hca.2.log) ?_
    rintro _ w3 ⟨rfl, hg3⟩
    obtain ⟨w4, hst, hrc⟩ := key w3 c.N hg3 rfl
    have hN : ((c.D.first.length - c.size - 1 : Nat) : Int) = (c.N : Int) := rfl
    simp (maxSteps := 1000000) (disch := omega) only [↓sy1, sy2, sy3, readOK, sy5, sy6, Nat.reduceEqDiff, ↓reduceIte, sy7, sy8, sy9, sya, oneOf, syb, syc, Nat.reduceAdd, Nat.reduceMul, syd, sye, syf, syg, syh, reduceCtorEq, hN, fill_gen, fillF_2 (u := u) (v := .int .i64 (c.N : Int)) huc rfl, hst]
    exact R_out hrc
end
end Go.Proofs.YtienelpepioggaaGreat

/- A bit is looked at, found, turned; whether pages fit. -/
namespace Go.Proofs.YtienelpepioggaaGreat
open Go
set_option linter.unusedSimpArgs false
open Go.RowKit (intOf)
def bitChk (x i : Nat) : Bool :=
  decide (IntKind.u8.wrap ((BitVec.ofInt 8 ((x : Int).fdiv (2 ^ (min ((i : Int).toNat) 8))) &&& BitVec.ofInt 8 1).toNat : Nat) = if x.testBit i then 1 else 0) &&
  decide (IntKind.u8.wrap ((BitVec.ofInt 8 (x : Int) ^^^ BitVec.ofInt 8 (IntKind.u8.wrap (1 * 2 ^ (min ((i : Int).toNat) 8)))).toNat : Nat) = ((x ^^^ 2 ^ i : Nat) : Int)) &&
  decide (IntKind.u8.wrap ((BitVec.ofInt 8 (x : Int) ||| BitVec.ofInt 8 (IntKind.u8.wrap (1 * 2 ^ (min ((i : Int).toNat) 8)))).toNat : Nat) = ((x ||| 2 ^ i : Nat) : Int)) && decide ((x ^^^ 2 ^ i) % 256 = x ^^^ 2 ^ i)
set_option maxRecDepth 100000 in
theorem bit_chk : ((List.range 256).all fun x => (List.range 8).all (bitChk x)) = true := by kernel_rfl
theorem bit_at {x i : Nat} (hx : x < 256) (hi : i < 8) : bitChk x i = true :=
  List.all_eq_true.1 (List.all_eq_true.1 bit_chk x (List.mem_range.2 hx)) i (List.mem_range.2 hi)
theorem shr_and {x : UInt8} {i : Nat} (hi : i < 8) : ∃ a, binV .shr (.int .u8 (x.toNat : Int)) (.int .i64 (i : Int)) = some (.int .u8 a) ∧ binV .and (.int .u8 a) (.int .u8 1) = some (.int .u8 (if x.toNat.testBit i then 1 else 0)) := by
  have h := bit_at (x := x.toNat) x.toNat_lt hi
  simp only [bitChk, Bool.and_eq_true, decide_eq_true_eq] at h
  refine ⟨(x.toNat : Int).fdiv (2 ^ (min ((i : Int).toNat) 8)), ?_, ?_⟩
  · simp only [binV]; rw [if_neg (by omega)]; rfl
  · simp only [binV]; rw [if_pos trivial]; exact congrArg (fun z => some (Value.int .u8 z)) h.1.1.1
theorem shl_xor {x : UInt8} {i : Nat} (hi : i < 8) : ∃ a, binV .shl (.int .u8 1) (.int .i64 (i : Int)) = some (.int .u8 a) ∧ binV .xor (.int .u8 (x.toNat : Int)) (.int .u8 a) = some (.int .u8 ((flip1 x i).toNat : Int)) := by
  have h := bit_at (x := x.toNat) x.toNat_lt hi
  simp only [bitChk, Bool.and_eq_true, decide_eq_true_eq] at h
  refine ⟨IntKind.u8.wrap (1 * 2 ^ (min ((i : Int).toNat) 8)), ?_, ?_⟩
  · simp only [binV]; rw [if_neg (by omega)]; rfl
  · simp only [binV]; rw [if_pos trivial]
    refine congrArg (fun z => some (Value.int .u8 z)) (h.1.1.2.trans ?_)
    rw [flip1, UInt8.toNat_ofNat', show 2 ^ 8 = 256 from rfl, h.2]
theorem tdiv8 (i : Nat) : (i : Int).tdiv 8 = ((i / 8 : Nat) : Int) := rfl
theorem tmod8 (i : Nat) : (i : Int).tmod 8 = ((i % 8 : Nat) : Int) := rfl
section
variable {G G' : Gh} {κ μ m p lq came k : Nat} {w w' : World} {c : Csh}
theorem bat_spec {u nv : Value} {b : List UInt8} {i : Nat} (hb : HasB w u b) (hi : i / 8 < b.length) (hn : isCell nv = true) (hlen : i < 70000) :
    Calls Tryz.prog 62 #[.agg #[u, nv], .int .i64 i] w (Ret fun v w' => v = .bool (bitB b i) ∧ Grow w w') := by
  have huc := hb.isCell
  apply enter62
  apply R_in
  simp (maxSteps := 1000000) (disch := omega) only [↓sy1, sy2, sy3, readOK, sy5, sy6, Nat.reduceEqDiff, ↓reduceIte, sy7, sy8, sy9, sya, oneOf, syb, syc, Nat.reduceAdd, Nat.reduceMul, syd, sye, syf, syg, syh, reduceCtorEq, F62, agg2_cells huc hn]
  have hg0 : Grow w (w.alloc (.cells #[u, nv] 128)) := (Keep.refl _ _).alloc _
  have hb0 := heap_alloc_new w (.cells #[u, nv] 128)
  generalize w.alloc (.cells #[u, nv] 128) = w0 at hg0 hb0 ⊢
  obtain ⟨a, ha, hc, _⟩ := (hb.grow hg0).getB hi
  obtain ⟨z, h1, h2⟩ := shr_and (x := b[i / 8]) (i := i % 8) (by omega)
  have hc0 : w0.cell? ⟨w.heap.size, 0, none⟩ = some u := by rw [cell_block hb0]; rfl
  simp (maxSteps := 1000000) (disch := omega) only [↓sy1, sy2, sy3, readOK, sy5, sy6, Nat.reduceEqDiff, ↓reduceIte, sy7, sy8, sy9, sya, oneOf, syb, syc, Nat.reduceAdd, Nat.reduceMul, syd, sye, syf, syg, syh, reduceCtorEq, hc0, tdiv8, tmod8, ha, hc, h1, h2]
  refine R_out ⟨?_, hg0⟩
  unfold bitB
  rw [List.getD_eq_getElem?_getD, List.getElem?_eq_getElem hi, Option.getD_some]
  cases b[i / 8].toNat.testBit (i % 8) <;> rfl
set_option maxHeartbeats 1000000 in
theorem first_spec {u : Value} {b : List UInt8} {n : Nat} (hb : HasB w u b) (hn : n ≤ 8 * b.length) (hlen : b.length ≤ 100000) :
    Calls Tryz.prog 65 #[.agg #[u, .int .i64 n]] w (Ret fun v w' => v = .int .i64 (firstZ (bitsOf b n)) ∧ Grow w w') := by
  have huc := hb.isCell
  apply enter65
  apply R_in
  simp (maxSteps := 1000000) (disch := omega) only [↓sy1, sy2, sy3, readOK, sy5, sy6, Nat.reduceEqDiff, ↓reduceIte, sy7, sy8, sy9, sya, oneOf, syb, syc, Nat.reduceAdd, Nat.reduceMul, syd, sye, syf, syg, syh, reduceCtorEq, F65, agg2_cells huc (y := .int .i64 (n : Int)) rfl]
  have hg0 : Grow w (w.alloc (.cells #[u, .int .i64 n] 128)) := (Keep.refl _ _).alloc _
  have hb0 := heap_alloc_new w (.cells #[u, .int .i64 n] 128)
  generalize w.alloc (.cells #[u, .int .i64 n] 128) = w0 at hg0 hb0 ⊢
  have hB0 := hb.grow hg0
  have hc0 : w0.cell? ⟨w.heap.size, 0, none⟩ = some u := by rw [cell_block hb0]; rfl
  have hc1 : w0.cell? ⟨w.heap.size, 1, none⟩ = some (.int .i64 n) := by rw [cell_block hb0]; rfl
  have hl8 : ∀ w', lenF w' 0 u = some (.int .i64 b.length) := fun w' => hB0.lenB w'
  have hfound : ∀ j : Nat, j < n → bitB b j = false → (∀ i < j, bitB b i = true) → firstZ (bitsOf b n) = (j : Int) := fun j hj h1 h2 => by
    have h3 : firstN (bitsOf b n) = j := firstN_eq (fun i hi => by rw [bitsOf_get (by omega), h2 i hi]) (by rw [bitsOf_get hj, h1])
    rw [firstZ, h3, bitsOf_length, if_pos hj]
  have hnone : (∀ i < n, bitB b i = true) → firstZ (bitsOf b n) = -1 := fun h1 => by
    have h3 : firstN (bitsOf b n) = (bitsOf b n).length := firstN_none (fun i hi => by rw [bitsOf_length] at hi; rw [bitsOf_get hi, h1 i hi])
    rw [firstZ, h3, if_neg (by omega)]
  simp (maxSteps := 1000000) (disch := omega) only [↓sy1, sy2, sy3, readOK, sy5, sy6, Nat.reduceEqDiff, ↓reduceIte, sy7, sy8, sy9, sya, oneOf, syb, syc, Nat.reduceAdd, Nat.reduceMul, syd, sye, syf, syg, syh, reduceCtorEq, hc0, hl8]
  refine loop_rule (fun e w' => ∃ j : Nat, j ≤ b.length ∧ e 11 = .int .i64 j ∧ e 10 = .int .i64 b.length ∧ e 9 = u ∧ e 1 = .pointer (some ⟨w.heap.size, 0, none⟩) ∧ e 3 = .int .i64 (-1) ∧ (∀ i, i < 8 * j → i < n ∧ bitB b i = true) ∧ w0 = w') (fun e _ => b.length - (intOf (e 11)).toNat)
    ⟨0, by omega, by simp [upd, updO, ev], by simp [upd, updO, ev], by simp [upd, updO, ev], by simp [upd, updO, ev], by simp [upd, updO, ev], by omega, rfl⟩ ?_
  rintro e w' ⟨j, hj, e11, e10, e9, e1, e3, hall, rfl⟩
  by_cases hjl : j < b.length
  · obtain ⟨a, ha, hc, _⟩ := hB0.getB hjl
    simp (maxSteps := 1000000) (disch := omega) only [↓sy1, sy2, sy3, readOK, sy5, sy6, Nat.reduceEqDiff, ↓reduceIte, sy7, sy8, sy9, sya, oneOf, syb, syc, Nat.reduceAdd, Nat.reduceMul, syd, sye, syf, syg, syh, reduceCtorEq, F65_L1, e11, e10, e9, e1, e3, Int.ofNat_lt, hjl, decide_true, ha, hc]
    refine loop_rule (fun e w' => ∃ i : Nat, i ≤ 8 ∧ e 16 = .int .i64 i ∧ e 4 = .int .i64 j ∧ e 5 = .int .u8 (b[j].toNat : Int) ∧ e 11 = .int .i64 j ∧ e 10 = .int .i64 b.length ∧ e 9 = u ∧ e 1 = .pointer (some ⟨w.heap.size, 0, none⟩) ∧ e 3 = .int .i64 (-1) ∧ (∀ z, z < 8 * j + i → z < n ∧ bitB b z = true) ∧ w0 = w') (fun e _ => 8 - (intOf (e 16)).toNat)
      ⟨0, by omega, by simp [upd, updO, ev], by simp [upd, updO, ev], by simp [upd, updO, ev], by simp [upd, updO, ev, e11], by simp [upd, updO, ev, e10], by simp [upd, updO, ev, e9], by simp [upd, updO, ev, e1], by simp [upd, updO, ev, e3], by simpa using hall, rfl⟩ ?_
    rintro e w' ⟨i, hi, e16, e4, e5, e11, e10, e9, e1, e3, hall, rfl⟩
    have hm8 : (8 : Int) * (j : Int) + (i : Int) = ((8 * j + i : Nat) : Int) := by omega
    by_cases hi8 : i < 8
    · by_cases hn8 : n ≤ 8 * j + i
      · simp (maxSteps := 1000000) (disch := omega) only [↓sy1, sy2, sy3, readOK, sy5, sy6, Nat.reduceEqDiff, ↓reduceIte, sy7, sy8, sy9, sya, oneOf, syb, syc, Nat.reduceAdd, Nat.reduceMul, syd, sye, syf, syg, syh, reduceCtorEq, F65_L0, e16, e4, e5, e11, e10, e9, e1, e3, show ((i : Int) < 8) from by omega, decide_true, hc1, hm8, show ((n : Int) ≤ ((8 * j + i : Nat) : Int)) from by omega]
        exact R_out ⟨by rw [hnone (fun z hz => (hall z (by omega)).2)], hg0⟩
      · obtain ⟨z, h1, h2⟩ := shr_and (x := b[j]) (i := i) hi8
        have hbit : bitB b (8 * j + i) = b[j].toNat.testBit i := by
          unfold bitB
          rw [show (8 * j + i) / 8 = j from by omega, show (8 * j + i) % 8 = i from by omega, List.getD_eq_getElem?_getD, List.getElem?_eq_getElem hjl, Option.getD_some]
        cases ht : b[j].toNat.testBit i with
        | true =>
          rw [ht] at h2 hbit
          simp (maxSteps := 1000000) (disch := omega) only [↓sy1, sy2, sy3, readOK, sy5, sy6, Nat.reduceEqDiff, ↓reduceIte, sy7, sy8, sy9, sya, oneOf, syb, syc, Nat.reduceAdd, Nat.reduceMul, syd, sye, syf, syg, syh, reduceCtorEq, F65_L0, e16, e4, e5, e11, e10, e9, e1, e3, show ((i : Int) < 8) from by omega, decide_true, hc1, hm8, show ¬ ((n : Int) ≤ ((8 * j + i : Nat) : Int)) from by omega, decide_false, h1, h2, Int.reduceEq]
          refine R_out ⟨⟨i + 1, by omega, rfl, fun z hz => ?_⟩, by simp only [intOf]; omega⟩
          by_cases hz' : z < 8 * j + i
          · exact hall z hz'
          · rw [show z = 8 * j + i from by omega]; exact ⟨by omega, hbit⟩
        | false =>
          rw [ht] at h2 hbit
          have h2' : binV .and (.int .u8 z) (.int .u8 1) = some (.int .u8 0) := h2
          simp (maxSteps := 1000000) (disch := omega) only [↓sy1, sy2, sy3, readOK, sy5, sy6, Nat.reduceEqDiff, ↓reduceIte, sy7, sy8, sy9, sya, oneOf, syb, syc, Nat.reduceAdd, Nat.reduceMul, syd, sye, syf, syg, syh, reduceCtorEq, F65_L0, e16, e4, e5, e11, e10, e9, e1, e3, show ((i : Int) < 8) from by omega, decide_true, hc1, hm8, show ¬ ((n : Int) ≤ ((8 * j + i : Nat) : Int)) from by omega, decide_false, h1, h2']
          exact R_out ⟨by rw [hfound _ (by omega) hbit (fun z hz => (hall z hz).2)], hg0⟩
    · simp (maxSteps := 1000000) (disch := omega) only [↓sy1, sy2, sy3, readOK, sy5, sy6, Nat.reduceEqDiff, ↓reduceIte, sy7, sy8, sy9, sya, oneOf, syb, syc, Nat.reduceAdd, Nat.reduceMul, syd, sye, syf, syg, syh, reduceCtorEq, F65_L0, e16, e4, e5, e11, e10, e9, e1, e3, show ¬ ((i : Int) < 8) from by omega, decide_false]
      exact R_out ⟨⟨j + 1, by omega, rfl, fun z hz => hall z (by omega)⟩, by simp only [intOf]; omega⟩
  · simp (maxSteps := 1000000) (disch := omega) only [↓sy1, sy2, sy3, readOK, sy5, sy6, Nat.reduceEqDiff, ↓reduceIte, sy7, sy8, sy9, sya, oneOf, syb, syc, Nat.reduceAdd, Nat.reduceMul, syd, sye, syf, syg, syh, reduceCtorEq, F65_L1, e11, e10, e9, e1, e3, Int.ofNat_lt, hjl, decide_false]
    exact R_out ⟨by rw [hnone (fun z hz => (hall z (by omega)).2)], hg0⟩
end
end Go.Proofs.YtienelpepioggaaGreat

/- A bit is turned; whether pages fit. -/
namespace Go.Proofs.YtienelpepioggaaGreat
open Go
set_option linter.unusedSimpArgs false
open Go.RowKit (intOf)
theorem Ext.thenS {K S : Nat → Prop} {G G1 : Gh} {w w1 w2 : World} (h : Ext K G w G1 w1) (hk : Keep S w1 w2) (hg : ∀ b, S b → w.heap.size ≤ b) : Ext K G w G1 w2 :=
  ⟨hk.os.trans h.os, hk.tape.trans h.tape, hk.output.trans h.output, Nat.le_trans h.size hk.size, h.own, h.fix, h.fixe,
    fun b hb hn => (hk.blk b (Nat.lt_of_lt_of_le hb h.size) (fun hh => by have := hg b hh; omega)).trans (h.blk b hb hn), fun b i v hb hi hc => hk.cell (h.pre b i v hb hi hc) (fun hh => by have := hg _ hh; simp only at this; omega)⟩
theorem underMB : Tryz.prog.underlying 115 = some (.map 3 4) := by kernel_rfl
theorem flipB_bs {b : List UInt8} {i : Nat} (h : i / 8 < b.length) : (bs b).set (i / 8) (.int .u8 ((flip1 b[i / 8] (i % 8)).toNat : Int)) = bs (flipB b i) := by
  rw [flipB, List.getD_eq_getElem?_getD, List.getElem?_eq_getElem h, Option.getD_some]
  simp [bs, List.map_set]
section
variable {G G' : Gh} {κ μ m p lq came k : Nat} {w w' : World} {c : Csh}
set_option maxHeartbeats 1000000 in
theorem turn_spec (h : MapC G κ μ w m p lq came c k) {pg i : Nat} (hpg : pg = 1 ∨ pg = 2) (hi : i < 4096) (hw : c.wcode pg 512 = 0) :
    Calls Tryz.prog 66 #[.pointer (some ⟨m, 0, none⟩), .int .i64 pg, .int .i64 i] w (Ret fun v w' => ∃ G', MapC G' κ μ w' m p lq came (c.write pg (flipB (c.page pg) i)) k ∧ Ext (fun x => x = μ) G w G' w') := by
  have hn3 := h.n3
  have hpl := h.cache.oks.plen (n := pg) (by omega)
  have hib : i / 8 < (c.page pg).length := by omega
  apply enter66
  apply R_in
  simp (maxSteps := 1000000) (disch := omega) only [↓sy1, sy2, sy3, readOK, sy5, sy6, Nat.reduceEqDiff, ↓reduceIte, sy7, sy8, sy9, sya, oneOf, syb, syc, Nat.reduceAdd, Nat.reduceMul, syd, sye, syf, syg, syh, reduceCtorEq, F66]
  refine call0 (mread_spec h hpg) ?_
  rintro _ w1 ⟨u, G1, rfl, hu, hub, h1, hx1⟩
  have huc := (Has.own hu).isCell
  have hg2 : Grow w1 (w1.alloc (.cells (Value.agg #[.slice none 0 0, .int .i64 0]).cells 128)) := (Keep.refl _ _).alloc _
  have hb2 := heap_alloc_new w1 (.cells (Value.agg #[.slice none 0 0, .int .i64 0]).cells 128)
  simp (maxSteps := 1000000) (disch := omega) only [↓sy1, sy2, sy3, readOK, sy5, sy6, Nat.reduceEqDiff, ↓reduceIte, sy7, sy8, sy9, sya, oneOf, syb, syc, Nat.reduceAdd, Nat.reduceMul, syd, sye, syf, syg, syh, reduceCtorEq]
  rw [agg2_cells (x := .slice none 0 0) (y := .int .i64 0) rfl rfl] at hg2 hb2 ⊢
  generalize w1.alloc (.cells #[.slice none 0 0, .int .i64 0] 128) = w2 at hg2 hb2 ⊢
  obtain ⟨w3, hst, hb3, hk3⟩ := stn2 (x := u) (y := .int .i64 (nbits c k pg)) hb2 huc rfl
  have hlt1 : ∀ b, u.ownBlock = some b → b < w1.heap.size := fun b hb => (World.ownsRow.lt hu b hb).2
  have hg3 : Grow w1 w3 := hg2.then hk3 (fun b hb hh => by omega)
  simp (maxSteps := 1000000) (disch := omega) only [↓sy1, sy2, sy3, readOK, sy5, sy6, Nat.reduceEqDiff, ↓reduceIte, sy7, sy8, sy9, sya, oneOf, syb, syc, Nat.reduceAdd, Nat.reduceMul, syd, sye, syf, syg, syh, reduceCtorEq, hst]
  refine draw66_0 (fun _ => False) ?_
  have hg4 := hg3.drew
  have hb4 : w3.drew.heap[w1.heap.size]? = _ := hb3
  generalize hw4 : w3.drew = w4 at hg4 hb4 ⊢
  have hu4 := own_grow hu hg4
  have hc4 : w4.cell? ⟨w1.heap.size, 0, none⟩ = some u := by rw [cell_block hb4]; rfl
  obtain ⟨a0, w5, ha0, hst5, ho5, hk5, hbk⟩ := own_store hu4 (i := i / 8) (by omega) (u := .int .u8 ((flip1 (c.page pg)[i / 8] (i % 8)).toNat : Int)) rfl
  obtain ⟨a, ha, hca, _⟩ := (Has.own hu4).getB hib
  obtain ⟨z, hz1, hz2⟩ := shl_xor (x := (c.page pg)[i / 8]) (i := i % 8) (by omega)
  rw [ha] at ha0
  cases ha0
  rw [flipB_bs hib] at ho5
  simp (maxSteps := 1000000) (disch := omega) only [↓sy1, sy2, sy3, readOK, sy5, sy6, Nat.reduceEqDiff, ↓reduceIte, sy7, sy8, sy9, sya, oneOf, syb, syc, Nat.reduceAdd, Nat.reduceMul, syd, sye, syf, syg, syh, reduceCtorEq, PL66_0, hc4, tdiv8, tmod8, ha, hca, hz1, hz2, hst5]
  refine draw66_1 (fun _ => False) ?_
  have h5 : MapC G1 κ μ w5 m p lq came c k := (h1.grow hg4).ext (.onS0 hk5 (fun b hb => hub b hb)) h.ne.1 h.ne.2 (by omega)
  have hb5 := hk5.heap hb4 (fun hh => by have := hlt1 _ hh; omega)
  have hgd : Grow w5 w5.drew := (Keep.refl _ _).drew
  have h6 := h5.grow hgd
  have ho6 := own_grow ho5 hgd
  have hb6 := hgd.gheap hb5
  have hx6 : Ext (fun x => x = μ) G w G1 w5.drew := ((hx1.trans (.grow hg4)).thenS hk5 (fun b hb => (World.ownsRow.lt hu b hb).1)).drew
  generalize w5.drew = w6 at hgd h6 ho6 hb6 hx6 ⊢
  have hc6 : w6.cell? ⟨w1.heap.size, 0, none⟩ = some u := by rw [cell_block hb6]; rfl
  simp (maxSteps := 1000000) (disch := omega) only [↓sy1, sy2, sy3, readOK, sy5, sy6, Nat.reduceEqDiff, ↓reduceIte, sy7, sy8, sy9, sya, oneOf, syb, syc, Nat.reduceAdd, Nat.reduceMul, syd, sye, syf, syg, syh, reduceCtorEq, PL66_1, h6.cells, hc6]
  refine call0 (cswrite_spec h6.cache (n := pg) (b := flipB (c.page pg) i) (Has.own ho6) (by rw [flipB_length]; omega)) ?_
  rintro _ w7 ⟨rfl, G7, hc7, hx7⟩
  simp (maxSteps := 1000000) (disch := omega) only [↓sy1, sy2, sy3, readOK, sy5, sy6, Nat.reduceEqDiff, ↓reduceIte, sy7, sy8, sy9, sya, oneOf, syb, syc, Nat.reduceAdd, Nat.reduceMul, syd, sye, syf, syg, syh, reduceCtorEq]
  rw [flipB_length, hpl, hw] at hc7
  exact R_out ⟨G7, h6.put hx7 (fun hh => h.cache.ne.2.1 hh.symm) hc7 rfl, hx6.trans hx7⟩
set_option maxHeartbeats 1000000 in
theorem fits_spec (h : MapC G κ μ w m p lq came c k) {lv : Value} {l : List Int} (hl : HasI w lv l) (hll : l.length ≤ 100000) :
    Calls Tryz.prog 25 #[.pointer (some ⟨m, 0, none⟩), lv] w (Ret fun v w' => v = .bool (c.fits l) ∧ Grow w w') := by
  have hroom := h.cache.oks.room
  have hnine := h.nine
  have hcap : c.cap ≤ 100 := by simp only [Csh.cap]; omega
  have hdl : (zs c.dirty).length = c.dirty.length := by simp [zs]
  apply enter25
  apply R_in
  have hg0 : Grow w (w.alloc (.map #[] 0)) := (Keep.refl _ _).alloc _
  have hb0 := heap_alloc_new w (.map #[] 0)
  have hs0 : (w.alloc (.map #[] 0)).heap.size = w.heap.size + 1 := by simp
  simp (maxSteps := 1000000) (disch := omega) only [↓sy1, sy2, sy3, readOK, sy5, sy6, Nat.reduceEqDiff, ↓reduceIte, sy7, sy8, sy9, sya, oneOf, syb, syc, Nat.reduceAdd, Nat.reduceMul, syd, sye, syf, syg, syh, reduceCtorEq, F25, (h.grow hg0).cells.1]
  generalize w.alloc (.map #[] 0) = w0 at hg0 hb0 hs0 ⊢
  refine call0 (csdirty_spec (h.grow hg0).cache) ?_
  rintro dv w1 ⟨hdv, hg1⟩
  have hK1 : KMap w1 w.heap.size [] := .new (hg1.gheap hb0)
  have hlen : ∀ w', lenF w' 0 dv = some (.int .i64 c.dirty.length) := fun w' => by
    rw [(Has.own hdv).lenI, hdl]
  simp (maxSteps := 1000000) (disch := omega) only [↓sy1, sy2, sy3, readOK, sy5, sy6, Nat.reduceEqDiff, ↓reduceIte, sy7, sy8, sy9, sya, oneOf, syb, syc, Nat.reduceAdd, Nat.reduceMul, syd, sye, syf, syg, syh, reduceCtorEq, hlen]
  refine loop_rule (fun e w' => ∃ i : Nat, i ≤ c.dirty.length ∧ e 18 = .int .i64 i ∧ e 17 = .int .i64 c.dirty.length ∧ e 16 = dv ∧ e 5 = .map (some w.heap.size) ∧ e 1 = lv ∧ e 0 = .pointer (some ⟨m, 0, none⟩) ∧ Grow w w' ∧ KMap w' w.heap.size (((zs c.dirty).take i).foldl insK []) ∧ w'.ownsRow w0.heap.size 3 1 dv c.dirty.length (ints (zs c.dirty))) (fun e _ => c.dirty.length - (intOf (e 18)).toNat)
    ⟨0, by omega, by simp [upd, updO, ev], by simp [upd, updO, ev], by simp [upd, updO, ev], by simp [upd, updO, ev], by simp [upd, updO, ev], by simp [upd, updO, ev], hg0.trans hg1, hK1, hdv⟩ ?_
  rintro e w2 ⟨i, hi, e18, e17, e16, e5, e1, e0, hg2, hK2, hd2⟩
  by_cases hlt : i < c.dirty.length
  · obtain ⟨a, ha, hc, _⟩ := (Has.own hd2).getI (i := i) (by omega)
    simp (maxSteps := 1000000) (disch := omega) only [↓sy1, sy2, sy3, readOK, sy5, sy6, Nat.reduceEqDiff, ↓reduceIte, sy7, sy8, sy9, sya, oneOf, syb, syc, Nat.reduceAdd, Nat.reduceMul, syd, sye, syf, syg, syh, reduceCtorEq, F25_L0, e18, e17, e16, e5, e1, e0, Int.ofNat_lt, hlt, decide_true, ha, hc]
    refine hK2.put (n := (zs c.dirty)[i]) (v := .bool true) (by simp only [upd_at, Nat.reduceEqDiff, reduceIte, ev_tmp, ev_const, List.map_cons, List.map_nil]) (by simp only [upd_at, Nat.reduceEqDiff, reduceIte, ev_tmp, ev_const, List.map_cons, List.map_nil]) (by simp only [upd_at, Nat.reduceEqDiff, reduceIte, ev_tmp, ev_const, List.map_cons, List.map_nil]) underMB underI (fun w3 hk3 hK3 => ?_)
    simp (maxSteps := 1000000) (disch := omega) only [↓sy1, sy2, sy3, readOK, sy5, sy6, Nat.reduceEqDiff, ↓reduceIte, sy7, sy8, sy9, sya, oneOf, syb, syc, Nat.reduceAdd, Nat.reduceMul, syd, sye, syf, syg, syh, reduceCtorEq, e18, e17, e16, e5, e1, e0]
    refine R_out ⟨⟨i + 1, by omega, rfl, hg2.then hk3 (fun b hb hh => by omega), ?_, own_keep hd2 hk3 (fun b hb hh => by have := (World.ownsRow.lt hd2 b hb).1; omega)⟩, by simp only [intOf]; omega⟩
    rw [fold_take (by omega)]; exact hK3
  have hie : i = c.dirty.length := by omega
  subst hie
  rw [← hdl, List.take_length] at hK2
  have hnd : ((zs c.dirty)).foldl insK [] = zs c.dirty := by
    rw [fold_nodup _ _ (by rw [List.nil_append]; exact zs_nodup (nodup_lt (keysQ_rise _ _)))]; simp
  rw [hnd] at hK2
  have hl2 := hl.grow hg2
  have hlenl : ∀ w', lenF w' 0 lv = some (.int .i64 l.length) := fun w' => hl.lenI w'
  have hK2l := hK2.len
  rw [hdl] at hK2l
  simp (maxSteps := 1000000) (disch := omega) only [↓sy1, sy2, sy3, readOK, sy5, sy6, Nat.reduceEqDiff, ↓reduceIte, sy7, sy8, sy9, sya, oneOf, syb, syc, Nat.reduceAdd, Nat.reduceMul, syd, sye, syf, syg, syh, reduceCtorEq, F25_L0, e18, e17, e16, e5, e1, e0, Int.ofNat_lt, Nat.lt_irrefl, decide_false, hK2l, hlenl]
  clear hd2 e18 e17 e16
  refine loop_rule (fun e w' => ∃ i : Nat, i ≤ l.length ∧ e 29 = .int .i64 i ∧ e 28 = .int .i64 l.length ∧ e 27 = lv ∧ e 5 = .map (some w.heap.size) ∧ e 8 = .int .i64 c.dirty.length ∧ e 0 = .pointer (some ⟨m, 0, none⟩) ∧ Grow w w' ∧ KMap w' w.heap.size ((l.take i).foldl insK (zs c.dirty))) (fun e _ => l.length - (intOf (e 29)).toNat)
    ⟨0, by omega, by simp [upd, updO, ev], by simp [upd, updO, ev], by simp [upd, updO, ev], by simp [upd, updO, ev, e5], by simp [upd, updO, ev], by simp [upd, updO, ev, e0], hg2, hK2⟩ ?_
  rintro e w3 ⟨i, hi, e29, e28, e27, e5, e8, e0, hg3, hK3⟩
  by_cases hlt : i < l.length
  · obtain ⟨a, ha, hc, _⟩ := (hl.grow hg3).getI (i := i) hlt
    simp (maxSteps := 1000000) (disch := omega) only [↓sy1, sy2, sy3, readOK, sy5, sy6, Nat.reduceEqDiff, ↓reduceIte, sy7, sy8, sy9, sya, oneOf, syb, syc, Nat.reduceAdd, Nat.reduceMul, syd, sye, syf, syg, syh, reduceCtorEq, F25_L1, e29, e28, e27, e5, e8, e0, Int.ofNat_lt, hlt, decide_true, ha, hc]
    refine hK3.put (n := l[i]) (v := .bool true) (by simp only [upd_at, Nat.reduceEqDiff, reduceIte, ev_tmp, ev_const, List.map_cons, List.map_nil]) (by simp only [upd_at, Nat.reduceEqDiff, reduceIte, ev_tmp, ev_const, List.map_cons, List.map_nil]) (by simp only [upd_at, Nat.reduceEqDiff, reduceIte, ev_tmp, ev_const, List.map_cons, List.map_nil]) underMB underI (fun w4 hk4 hK4 => ?_)
    simp (maxSteps := 1000000) (disch := omega) only [↓sy1, sy2, sy3, readOK, sy5, sy6, Nat.reduceEqDiff, ↓reduceIte, sy7, sy8, sy9, sya, oneOf, syb, syc, Nat.reduceAdd, Nat.reduceMul, syd, sye, syf, syg, syh, reduceCtorEq, e29, e28, e27, e5, e8, e0]
    refine R_out ⟨⟨i + 1, by omega, rfl, hg3.then hk4 (fun b hb hh => by omega), ?_⟩, by simp only [intOf]; omega⟩
    rw [fold_take hlt]; exact hK4
  have hie : i = l.length := by omega
  subst hie
  rw [List.take_length] at hK3
  simp (maxSteps := 1000000) (disch := omega) only [↓sy1, sy2, sy3, readOK, sy5, sy6, Nat.reduceEqDiff, ↓reduceIte, sy7, sy8, sy9, sya, oneOf, syb, syc, Nat.reduceAdd, Nat.reduceMul, syd, sye, syf, syg, syh, reduceCtorEq, F25_L1, e29, e28, e27, e5, e8, e0, Int.ofNat_lt, Nat.lt_irrefl, decide_false]
  refine draw25_0 (fun _ => False) ?_
  have hgd : Grow w3 w3.drew := (Keep.refl _ _).drew
  have hK4 := hK3.keep hgd id
  have h4 := (h.grow hg3).grow hgd
  have hg4 := hg3.trans hgd
  generalize w3.drew = w4 at hgd hK4 h4 hg4 ⊢
  have hlen4 := hK4.len
  have hfl : (fitK c l).length ≤ 100000 + 100 := by
    have := fold_length l (zs c.dirty)
    unfold fitK; omega
  have hfd : c.dirty.length ≤ (fitK c l).length := by
    have := fold_length l (zs c.dirty)
    unfold fitK; omega
  rw [show (l.foldl insK (zs c.dirty)) = fitK c l from rfl] at hlen4
  simp (maxSteps := 1000000) (disch := omega) only [↓sy1, sy2, sy3, readOK, sy5, sy6, Nat.reduceEqDiff, ↓reduceIte, sy7, sy8, sy9, sya, oneOf, syb, syc, Nat.reduceAdd, Nat.reduceMul, syd, sye, syf, syg, syh, reduceCtorEq, PL25_0, e5, e8, e0, h4.cells.1, hlen4]
  refine ⟨Keep.refl _ _, call0 (csroom_spec h4.cache) ?_⟩
  rintro _ w5 ⟨rfl, hg5⟩
  simp (maxSteps := 1000000) (disch := omega) only [↓sy1, sy2, sy3, readOK, sy5, sy6, Nat.reduceEqDiff, ↓reduceIte, sy7, sy8, sy9, sya, oneOf, syb, syc, Nat.reduceAdd, Nat.reduceMul, syd, sye, syf, syg, syh, reduceCtorEq]
  refine R_out ⟨?_, hg4.trans hg5⟩
  unfold Csh.fits
  exact decide_eq_decide.2 (by omega)
end
end Go.Proofs.YtienelpepioggaaGreat
