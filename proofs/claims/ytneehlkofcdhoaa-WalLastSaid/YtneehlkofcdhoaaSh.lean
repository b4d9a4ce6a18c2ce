/- The log's head is written, and flushed. -/
import Derived.Test.YtneehlkofcdhoaaLg
namespace Go.Proofs.Ytneehlkofcdhoaa
open Go
set_option linter.unusedSimpArgs false
open Go.RowKit (intOf)
/-- The head's first bytes, i numbers of it. -/
def headP (ns : List Nat) (i : Nat) : List UInt8 := [0x44, 0x4e, hi ns.length, lo ns.length] ++ (ns.take i).flatMap fun n => [hi n, lo n]
theorem headP_length (ns : List Nat) {i : Nat} (h : i ≤ ns.length) : (headP ns i).length = 4 + 2 * i := by
  have : ∀ l : List Nat, (l.flatMap fun n => [hi n, lo n]).length = 2 * l.length := by
    intro l
    induction l with
    | nil => rfl
    | cons n l ih => rw [List.flatMap_cons, List.length_append, ih]; simp; omega
  rw [headP, List.length_append, this, List.length_take, Nat.min_eq_left h]; simp <;> omega
theorem headP_all (ns : List Nat) : headP ns ns.length ++ List.replicate (508 - 2 * ns.length) 0 = headB ns := by rw [headP, List.take_length]; rfl
theorem headP_succ (ns : List Nat) {i : Nat} (h : i < ns.length) : headP ns (i + 1) = headP ns i ++ [hi ns[i], lo ns[i]] := by
  rw [headP, headP, List.take_succ_eq_append_getElem h, List.flatMap_append]; simp
theorem hi_val {n : Nat} : ((hi n).toNat : Int) = ((n : Int) / 256) % 256 := by
  rw [hi, UInt8.toNat_ofNat']; omega
theorem lo_val {n : Nat} : ((lo n).toNat : Int) = (n : Int) % 256 := by
  rw [lo, UInt8.toNat_ofNat']; omega
theorem repl4 (z : Value) : List.replicate 512 z = z :: z :: z :: z :: List.replicate 508 z := by
  rw [List.replicate_succ (n := 511), List.replicate_succ (n := 510), List.replicate_succ (n := 509), List.replicate_succ (n := 508)]
theorem first4 (z a b c d : Value) : ((((Array.replicate 512 z).setIfInBounds 0 a).setIfInBounds 1 b).setIfInBounds 2 c).setIfInBounds 3 d = ([a, b, c, d] ++ List.replicate (508 - 2 * 0) z).toArray := by
  apply Array.ext'
  rw [Array.toList_setIfInBounds, Array.toList_setIfInBounds, Array.toList_setIfInBounds, Array.toList_setIfInBounds, Array.toList_replicate, repl4]
  rw [show 508 - 2 * 0 = 508 from rfl]
  generalize List.replicate 508 z = r
  rfl
theorem zero_cells (n : Nat) : List.replicate n (Value.int .u8 0) = bs (List.replicate n 0) := by simp [bs]
theorem setHead_spec {G : Gh} {κ : Nat} {w : World} {q size came : Nat} {D : Dsk} {nv : Value} {ns : List Nat} (h : LogAt G κ w q size came D) (hn : HasI w nv (zs ns)) (hl : ns.length ≤ 100) (ho : D.ops.length < 900000) :
    Calls Try.prog 45 #[.pointer (some ⟨q, 0, none⟩), nv] w (Ret fun _ w' => ∃ G', LogAt G' κ w' q size came ((D.add (.wr 0 (headB ns))).add .fl) ∧ Ext (fun c => c = κ) G w G' w') := by
  have hlog := h
  obtain ⟨hκ, hsz1, hsz2, ho0, p, hq, hd⟩ := h
  have hlen : ∀ w', lenF w' 0 nv = some (.int .i64 ns.length) := fun w' => by rw [hn.lenI]; simp
  have hok := hd.ok
  have hmost := hok.most
  apply enter45
  apply R_in
  simp (maxSteps := 600000) (disch := omega) only [F45, ↓sy1, sy2, sy3, readOK, sy5, sy6, Nat.reduceEqDiff, ↓reduceIte, sy7, sy8, sy9, sya, oneOf, syb, syc, Nat.reduceAdd, Nat.reduceMul, syd, sye, syf, syg, syh, reduceCtorEq]
  refine mk_rule elemB (kx := .i64) (ky := .i64) (a := 4) (c := 512) (by simp only [upd_at, Nat.reduceEqDiff, reduceIte, ev_tmp, ev_const, List.map_cons, List.map_nil]) (by simp only [upd_at, Nat.reduceEqDiff, reduceIte, ev_tmp, ev_const, List.map_cons, List.map_nil]) (by omega) (by omega) (by omega) (by omega) rfl ?_
  have hg1 : Grow w (w.alloc (.cells (Array.replicate (512 : Int).toNat (.int .u8 0)) 5)) := (Keep.refl _ _).alloc _
  have hb1 := heap_alloc_new w (.cells (Array.replicate (512 : Int).toNat (.int .u8 0)) 5)
  generalize w.alloc (.cells (Array.replicate (512 : Int).toNat (.int .u8 0)) 5) = w1 at hg1 hb1 ⊢
  rw [show (512 : Int).toNat = 512 from rfl] at hb1 ⊢
  rw [show (4 : Int).toNat = 4 from rfl]
  have hgq : w.heap.size ≠ q := by have := (Array.getElem?_eq_some_iff.1 hq).1; omega
  have hgge : w.heap.size ≤ w.heap.size := Nat.le_refl _
  generalize hgg : w.heap.size = g at hb1 hgq hgge ⊢
  obtain ⟨w2, hst2, hb2, hk2⟩ := cell_store hb1 (i := 0) (by simp) (u := .int .u8 68) rfl
  obtain ⟨w3, hst3, hb3, hk3⟩ := cell_store hb2 (i := 1) (by simp) (u := .int .u8 78) rfl
  obtain ⟨w4, hst4, hb4, hk4⟩ := cell_store hb3 (i := 2) (by simp) (u := .int .u8 (((ns.length : Int) / 256) % 256)) rfl
  obtain ⟨w5, hst5, hb5, hk5⟩ := cell_store hb4 (i := 3) (by simp) (u := .int .u8 ((ns.length : Int) % 256)) rfl
  have hi0 : iaF 1 (.slice (some ⟨g, 0, none⟩) 4 512) (.int .i64 0) = some (.pointer (some ⟨g, 0, none⟩)) := by rw [iaF_s (by omega)]; simp [add_lit]
  have hi1 : iaF 1 (.slice (some ⟨g, 0, none⟩) 4 512) (.int .i64 1) = some (.pointer (some ⟨g, 1, none⟩)) := by rw [iaF_s (by omega)]; simp [add_lit]
  have hi2 : iaF 1 (.slice (some ⟨g, 0, none⟩) 4 512) (.int .i64 2) = some (.pointer (some ⟨g, 2, none⟩)) := by rw [iaF_s (by omega)]; simp [add_lit]
  have hi3 : iaF 1 (.slice (some ⟨g, 0, none⟩) 4 512) (.int .i64 3) = some (.pointer (some ⟨g, 3, none⟩)) := by rw [iaF_s (by omega)]; simp [add_lit]
  generalize hsv : Value.slice (some ⟨g, 0, none⟩) 4 512 = sv at hi0 hi1 hi2 hi3 ⊢
  simp (maxSteps := 600000) (disch := omega) only [↓sy1, sy2, sy3, readOK, sy5, sy6, Nat.reduceEqDiff, ↓reduceIte, sy7, sy8, sy9, sya, oneOf, syb, syc, Nat.reduceAdd, Nat.reduceMul, syd, sye, syf, syg, syh, reduceCtorEq, hlen, bin_shr8, hi0, hi1, hi2, hi3, hst2, hst3, hst4, hst5]
  have hg5 : Grow w w5 := (((hg1.then hk2 (fun b hb h => by omega)).then hk3 (fun b hb h => by omega)).then hk4 (fun b hb h => by omega)).then hk5 (fun b hb h => by omega)
  have hcells : w5.heap[g]? = some (.cells (bs (headP ns 0) ++ List.replicate (508 - 2 * 0) (Value.int .u8 0)).toArray 5 (0, 0)) := by
    rw [hb5]
    have hbs : bs (headP ns 0) = [Value.int .u8 68, Value.int .u8 78, Value.int .u8 (((ns.length : Int) / 256) % 256), Value.int .u8 ((ns.length : Int) % 256)] := by
      simp [headP, bs, hi_val, lo_val]
    have hz := first4 (.int .u8 0) (.int .u8 68) (.int .u8 78) (.int .u8 (((ns.length : Int) / 256) % 256)) (.int .u8 ((ns.length : Int) % 256))
    rw [hz, hbs]
  refine loop_rule (fun e w' => ∃ i : Nat, i ≤ ns.length ∧ e 25 = .int .i64 i ∧ e 24 = .int .i64 ns.length ∧ e 23 = nv ∧ e 0 = .pointer (some ⟨q, 0, none⟩) ∧ e 4 = .slice (some ⟨g, 0, none⟩) (4 + 2 * i) 512 ∧
      w'.heap[g]? = some (.cells (bs (headP ns i) ++ List.replicate (508 - 2 * i) (Value.int .u8 0)).toArray 5 (0, 0)) ∧ Grow w w') (fun e _ => ns.length - (intOf (e 25)).toNat)
    ⟨0, by omega, by simp [upd, updO, ev], by simp [upd, updO, ev], by simp [upd, updO, ev], by simp [upd, updO, ev], by simp [upd, updO, ev, hsv], hcells, hg5⟩ ?_
  rintro e w6 ⟨i, hi, e25, e24, e23, e0, e4, hb6, hg6⟩
  have hpl := headP_length ns hi
  by_cases hlt : i < ns.length
  · obtain ⟨a, ha, hac, _⟩ := (hn.grow hg6).getI (l := zs ns) (i := i) (by simpa using hlt)
    have hnv : (zs ns)[i]'(by simpa using hlt) = ((ns[i] : Nat) : Int) := by simp
    rw [hnv] at hac
    simp (maxSteps := 600000) (disch := omega) only [F45_L0, ↓sy1, sy2, sy3, readOK, sy5, sy6, Nat.reduceEqDiff, ↓reduceIte, sy7, sy8, sy9, sya, oneOf, syb, syc, Nat.reduceAdd, Nat.reduceMul, syd, sye, syf, syg, syh, reduceCtorEq, e25, e24, e23, e0, e4, Int.ofNat_lt, hlt, decide_true, ha, hac, bin_shr8, fill_gen, fillF_2 (a := .int .u8 0) (b := .int .u8 0) (show isCell (.int .u8 (((ns[i] : Nat) : Int) / 256 % 256)) = true from rfl) (show isCell (.int .u8 (((ns[i] : Nat) : Int) % 256)) = true from rfl)]
    have hg7 : Grow w6 (w6.alloc (.cells #[.int .u8 (((ns[i] : Nat) : Int) / 256 % 256), .int .u8 (((ns[i] : Nat) : Int) % 256)] 5)) := (Keep.refl _ _).alloc _
    refine app_exact (g := g) (n := 4 + 2 * i) (cap := 512) elemB (by simp only [upd_at, Nat.reduceEqDiff, reduceIte, ev_tmp, ev_const, List.map_cons, List.map_nil, e4]) (by simp only [upd_at, Nat.reduceEqDiff, reduceIte, ev_tmp, ev_const, List.map_cons, List.map_nil]) (hg7.gheap hb6) (by simp [bs, hpl]; omega) (by simp; omega) Has.new2 (by simp) (by simp [isCell]) ?_
    intro w8 hk8 hb8
    simp (maxSteps := 600000) (disch := omega) only [↓sy1, sy2, sy3, readOK, sy5, sy6, Nat.reduceEqDiff, ↓reduceIte, sy7, sy8, sy9, sya, oneOf, syb, syc, Nat.reduceAdd, Nat.reduceMul, syd, sye, syf, syg, syh, reduceCtorEq, e25, e24, e23, e0]
    refine R_out ⟨⟨i + 1, by omega, rfl, rfl, ?_, (hg6.trans hg7).then hk8 (fun b hb h => by omega)⟩, ?_⟩
    · rw [hb8]
      congr 2
      apply Array.ext'
      have h1 : (bs (headP ns i)).length = 4 + 2 * i := by rw [bs_length, hpl]
      simp only [List.toList_toArray]
      rw [headP_succ ns hlt, List.take_left' h1, List.drop_append, List.drop_of_length_le (by rw [h1]; simp), List.nil_append, List.drop_replicate]
      simp only [bs, List.map_append, List.map_cons, List.map_nil, hi_val, lo_val, List.length_cons, List.length_nil]
      congr 2
      have : (List.map (fun b : UInt8 => Value.int .u8 (b.toNat : Int)) (headP ns i)).length = 4 + 2 * i := by rw [List.length_map, hpl]
      rw [this]; omega
    · simp only [intOf]; omega
  · have hie : i = ns.length := by omega
    subst hie
    have hqp : ∀ {w'}, Grow w w' → w'.cell? ⟨q, 0, none⟩ = some (.pointer (some ⟨p, 0, none⟩)) := fun hg => by rw [cell_block (hg.gheap hq)]; rfl
    simp (maxSteps := 600000) (disch := omega) only [F45_L0, ↓sy1, sy2, sy3, readOK, sy5, sy6, Nat.reduceEqDiff, ↓reduceIte, sy7, sy8, sy9, sya, oneOf, syb, syc, Nat.reduceAdd, Nat.reduceMul, syd, sye, syf, syg, syh, reduceCtorEq, e25, e24, e23, e0, e4, Int.ofNat_lt, hlt, decide_false]
    refine draw45_0 (fun _ => False) ?_
    have hgd : Grow w6 w6.drew := (Keep.refl _ _).drew
    have hb7 := hgd.gheap hb6
    have hg7 := hg6.trans hgd
    generalize w6.drew = w7 at hb7 hg7 ⊢
    have hslc : slcV 1 (some ⟨g, 0, none⟩) (4 + 2 * ns.length) 512 none (some (.int .i64 512)) none = some (.slice (some ⟨g, 0, none⟩) 512 512) := by
      simp [slcV, bndV, add_lit]
    have hhb := headB_length hl
    have hu : HasB w7 (.slice (some ⟨g, 0, none⟩) 512 512) (headB ns) := by
      refine .inl ⟨g, 0, 512, 512, rfl, by rw [bs_length, hhb], Nat.le_refl _, fun j u hj => ?_⟩
      rw [cell_block hb7, Nat.zero_add]
      have : bs (headP ns ns.length) ++ List.replicate (508 - 2 * ns.length) (Value.int .u8 0) = bs (headB ns) := by
        rw [← headP_all, zero_cells]; simp [bs]
      rw [this, List.getElem?_toArray]; exact hj
    simp (maxSteps := 600000) (disch := omega) only [PL45_0, ↓sy1, sy2, sy3, readOK, sy5, sy6, Nat.reduceEqDiff, ↓reduceIte, sy7, sy8, sy9, sya, oneOf, syb, syc, Nat.reduceAdd, Nat.reduceMul, syd, sye, syf, syg, syh, reduceCtorEq, e25, e24, e23, e0, e4, hqp hg7, hslc]
    refine call0 (write_spec (n := 0) (hd.grow hg7) (by omega) hhb hu (by omega)) ?_
    rintro _ w8 ⟨rfl, G8, hd8, hx8⟩
    have hx7 : Ext (fun c => c = κ) G w G8 w8 := (Ext.grow hg7).trans hx8
    have hl8 := hlog.put (E := D.add (.wr 0 (headB ns))) (hqp (Keep.refl _ _)) hx7 rfl hd8
    have hq8 : w8.cell? ⟨q, 0, none⟩ = some (.pointer (some ⟨p, 0, none⟩)) := by rw [cell_block (hx7.heap hq (by rw [ho0]; exact fun h => hκ h.symm))]; rfl
    simp (maxSteps := 600000) (disch := omega) only [↓sy1, sy2, sy3, readOK, sy5, sy6, Nat.reduceEqDiff, ↓reduceIte, sy7, sy8, sy9, sya, oneOf, syb, syc, Nat.reduceAdd, Nat.reduceMul, syd, sye, syf, syg, syh, reduceCtorEq, e0, hq8]
    refine call0 (flush_spec hd8 (by simp [Dsk.add]; omega)) ?_
    rintro _ w9 ⟨rfl, G9, hd9, hx9⟩
    simp (maxSteps := 600000) (disch := omega) only [↓sy1, sy2, sy3, readOK, sy5, sy6, Nat.reduceEqDiff, ↓reduceIte, sy7, sy8, sy9, sya, oneOf, syb, syc, Nat.reduceAdd, Nat.reduceMul, syd, sye, syf, syg, syh, reduceCtorEq]
    exact R_out ⟨G9, hl8.put (E := (D.add (.wr 0 (headB ns))).add .fl) hq8 hx9 rfl hd9, hx7.trans hx9⟩
end Go.Proofs.Ytneehlkofcdhoaa
