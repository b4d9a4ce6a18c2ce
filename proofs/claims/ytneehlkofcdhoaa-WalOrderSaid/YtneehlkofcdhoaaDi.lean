/- The disk: reads, writes, flushes. -/
import Derived.Test.YtneehlkofcdhoaaDo
namespace Go.Proofs.Ytneehlkofcdhoaa
open Go
set_option linter.unusedSimpArgs false
open Go.RowKit (intOf)
theorem DiskAt.ok {G : Gh} {κ : Nat} {w : World} {p : Nat} {D : Dsk} (h : DiskAt G κ w p D) : D.Ok := h.1
theorem DiskAt.lt {G : Gh} {κ : Nat} {w : World} {p : Nat} {D : Dsk} (h : DiskAt G κ w p D) : p < w.heap.size := by
  obtain ⟨_, _, vf, vl, vs, m, hp, _⟩ := h; exact (Array.getElem?_eq_some_iff.1 hp).1
theorem lkpV_eq {w w' : World} {z : Value} {ok : Bool} {m : Nat} {u : Value} (h : w'.heap[m]? = w.heap[m]?) : lkpV w' z ok (.map (some m)) u = lkpV w z ok (.map (some m)) u := by
  cases u <;> simp [lkpV, h]
theorem image_get {D : Dsk} {n : Nat} (h : n < D.first.length) : D.image[n]'(by rw [D.image_length]; exact h) = lastOr (D.wait n) (D.safe[n]'(by rw [D.safe_length]; exact h)) := D.image_get n _ _

theorem Dsk.wait_length (D : Dsk) (n : Nat) : (D.wait n).length ≤ D.ops.length := by
  have : ∀ (l : List DOp) (s : DState), ((l.foldl dstep s).2 n).length ≤ (s.2 n).length + l.length := by
    intro l
    induction l with
    | nil => intro s; simp
    | cons o l ih =>
      intro s
      rw [List.foldl_cons]
      refine Nat.le_trans (ih _) ?_
      obtain ⟨s, q⟩ := s
      cases o with
      | wr k b =>
        simp only [dstep, List.length_cons]
        by_cases h : n = k
        · subst h; simp; omega
        · simp only [if_neg h]; omega
      | fl => simp only [dstep, List.length_nil, List.length_cons]; omega
  have := this D.ops (D.first, fun _ => [])
  simpa [Dsk.wait, Dsk.st] using this
theorem readS_spec {G : Gh} {κ : Nat} {w : World} {p n : Nat} {D : Dsk} (h : DiskAt G κ w p D) (hn : n < D.first.length) :
    Calls Try.prog 78 #[.pointer (some ⟨p, 2, none⟩), .int .i64 n] w (Ret fun v w' => w' = w ∧ HasFB G w v (D.image[n]'(by rw [D.image_length]; exact hn))) := by
  obtain ⟨hok, hl, vf, vl, vs, m, hp, ho, hf, h1, h2, hs, hw⟩ := h
  have hc2 : w.cell? ⟨p, 2, none⟩ = some vs := by rw [cell_block hp]; rfl
  have hc3 : w.cell? ⟨p, 3, none⟩ = some (.map (some m)) := by rw [cell_block hp]; rfl
  rw [image_get hn]
  apply enter78
  apply R_in
  rcases hw.lkp n with ⟨hq, hlk⟩ | ⟨v, hlk, us, b, c, rfl, hu, hr, hne, _⟩
  · obtain ⟨ts, sb, h4, h5, h6, h7, h8⟩ := hs
    have hlen := h6.length
    have hsl := D.safe_length
    obtain ⟨a, ha, hac, _⟩ := (Has.own h5).idx (i := n) (by omega)
    simp (maxSteps := 600000) (disch := omega) only [F78, ↓sy1, sy2, sy3, readOK, sy5, sy6, Nat.reduceEqDiff, ↓reduceIte, sy7, sy8, sy9, sya, oneOf, syb, syc, Nat.reduceAdd, Nat.reduceMul, syd, sye, syf, syg, syh, reduceCtorEq, hc2, hc3, hlk, ha, hac, show ¬ ((0 : Int) < ((0 : Nat) : Int)) from by omega, decide_false]
    refine R_out ?_
    rw [hq]
    simp only [lastOr, List.getLast?_nil, Option.getD_none]
    exact h6.get n (by omega) (by omega)
  · have hlen := hr.length
    have hpos : 0 < (D.wait n).length := List.length_pos_iff.2 hne
    obtain ⟨a, ha, hac, _⟩ := hu.1.idx (i := (D.wait n).length - 1) (by omega)
    have hcast : (((D.wait n).length : Int) - 1) = (((D.wait n).length - 1 : Nat) : Int) := by omega
    have hcap := D.wait_length n
    simp (maxSteps := 600000) (disch := omega) only [F78, ↓sy1, sy2, sy3, readOK, sy5, sy6, Nat.reduceEqDiff, ↓reduceIte, sy7, sy8, sy9, sya, oneOf, syb, syc, Nat.reduceAdd, Nat.reduceMul, syd, sye, syf, syg, syh, reduceCtorEq, hc2, hc3, hlk, show ((0 : Int) < ((D.wait n).length : Int)) from by omega, decide_true, hcast, ha, hac]
    refine R_out ?_
    rw [lastOr, List.getLast?_eq_some_getLast hne, Option.getD_some, List.getLast_eq_getElem hne]
    exact hr.get _ (by omega) (by omega)
theorem read_spec {G : Gh} {κ : Nat} {w : World} {p n : Nat} {D : Dsk} (h : DiskAt G κ w p D) (hn : n < D.first.length) :
    Calls Try.prog 47 #[.pointer (some ⟨p, 0, none⟩), .int .i64 n] w (Ret fun v w' => ∃ u, v = .tuple #[u, .int .i64 0] ∧ w'.ownsRow w.heap.size 5 1 u 512 (bs (D.image[n]'(by rw [D.image_length]; exact hn))) ∧ Grow w w') := by
  have hr := readS_spec h hn
  have h512 := h.ok.image _ (List.getElem_mem (by rw [D.image_length]; exact hn))
  obtain ⟨hok, hl, vf, vl, vs, m, hp, ho, hf, h1, h2, hs, hw⟩ := h
  have hc0 : w.cell? ⟨p, 0, none⟩ = some vf := by rw [cell_block hp]; rfl
  apply enter47
  apply R_in
  simp (maxSteps := 600000) (disch := omega) only [F47, ↓sy1, sy2, sy3, readOK, sy5, sy6, Nat.reduceEqDiff, ↓reduceIte, sy7, sy8, sy9, sya, oneOf, syb, syc, Nat.reduceAdd, Nat.reduceMul, syd, sye, syf, syg, syh, reduceCtorEq, hc0, h1.has.len, show ¬ ((n : Int) < 0) from by omega, show ¬ ((D.first.length : Int) ≤ n) from by omega, decide_false]
  refine call0 hr ?_
  rintro v w1 ⟨rfl, hv⟩
  simp (maxSteps := 600000) (disch := omega) only [↓sy1, sy2, sy3, readOK, sy5, sy6, Nat.reduceEqDiff, ↓reduceIte, sy7, sy8, sy9, sya, oneOf, syb, syc, Nat.reduceAdd, Nat.reduceMul, syd, sye, syf, syg, syh, reduceCtorEq]
  refine call0 (bytesClone_spec v _ w1 hv.1 (by omega)) ?_
  rintro u w2 ⟨hu, hg⟩
  simp (maxSteps := 600000) (disch := omega) only [↓sy1, sy2, sy3, readOK, sy5, sy6, Nat.reduceEqDiff, ↓reduceIte, sy7, sy8, sy9, sya, oneOf, syb, syc, Nat.reduceAdd, Nat.reduceMul, syd, sye, syf, syg, syh, reduceCtorEq]
  rw [h512] at hu
  exact R_out ⟨u, rfl, hu, hg⟩
theorem read_bad {G : Gh} {κ : Nat} {w : World} {p : Nat} {n : Int} {D : Dsk} (h : DiskAt G κ w p D) (hn : n < 0 ∨ D.first.length ≤ n) :
    Calls Try.prog 47 #[.pointer (some ⟨p, 0, none⟩), .int .i64 n] w (Ret fun v w' => v = .tuple #[.slice none 0 0, .int .i64 2] ∧ w' = w) := by
  obtain ⟨hok, hl, vf, vl, vs, m, hp, ho, hf, h1, h2, hs, hw⟩ := h
  have hc0 : w.cell? ⟨p, 0, none⟩ = some vf := by rw [cell_block hp]; rfl
  apply enter47
  apply R_in
  by_cases h0 : n < 0
  · simp (maxSteps := 600000) (disch := omega) only [F47, ↓sy1, sy2, sy3, readOK, sy5, sy6, Nat.reduceEqDiff, ↓reduceIte, sy7, sy8, sy9, sya, oneOf, syb, syc, Nat.reduceAdd, Nat.reduceMul, syd, sye, syf, syg, syh, reduceCtorEq, h0, decide_true]
    exact R_out trivial
  · simp (maxSteps := 600000) (disch := omega) only [F47, ↓sy1, sy2, sy3, readOK, sy5, sy6, Nat.reduceEqDiff, ↓reduceIte, sy7, sy8, sy9, sya, oneOf, syb, syc, Nat.reduceAdd, Nat.reduceMul, syd, sye, syf, syg, syh, reduceCtorEq, hc0, h1.has.len, h0, show ((D.first.length : Int) ≤ n) from by omega, decide_false, decide_true]
    exact R_out trivial
theorem read_nil {w : World} {n : Int} : Calls Try.prog 47 #[.pointer none, .int .i64 n] w (Ret fun v w' => v = .tuple #[.slice none 0 0, .int .i64 1] ∧ w' = w) := by
  apply enter47
  apply R_in
  simp (maxSteps := 600000) (disch := omega) only [F47, ↓sy1, sy2, sy3, readOK, sy5, sy6, Nat.reduceEqDiff, ↓reduceIte, sy7, sy8, sy9, sya, oneOf, syb, syc, Nat.reduceAdd, Nat.reduceMul, syd, sye, syf, syg, syh, reduceCtorEq]
  exact R_out trivial
theorem sectors_spec {G : Gh} {κ : Nat} {w : World} {p : Nat} {D : Dsk} (h : DiskAt G κ w p D) :
    Calls Try.prog 48 #[.pointer (some ⟨p, 0, none⟩)] w (Ret fun v w' => v = .int .i64 D.first.length ∧ w' = w) := by
  obtain ⟨hok, hl, vf, vl, vs, m, hp, ho, hf, h1, h2, hs, hw⟩ := h
  have hc0 : w.cell? ⟨p, 0, none⟩ = some vf := by rw [cell_block hp]; rfl
  apply enter48
  apply R_in
  simp (maxSteps := 600000) (disch := omega) only [F48, ↓sy1, sy2, sy3, readOK, sy5, sy6, Nat.reduceEqDiff, ↓reduceIte, sy7, sy8, sy9, sya, oneOf, syb, syc, Nat.reduceAdd, Nat.reduceMul, syd, sye, syf, syg, syh, reduceCtorEq, hc0, h1.has.len]
  exact R_out trivial
theorem OpsAt.len {G : Gh} {w : World} {v : Value} {os : List DOp} (h : OpsAt G w v os) (w2 : World) : lenF w2 0 v = some (.int .i64 os.length) := by
  obtain ⟨vs, h1, h2⟩ := h; rw [h1.1.len, h2.length]
theorem ops_spec {G : Gh} {κ : Nat} {w : World} {p : Nat} {D : Dsk} (h : DiskAt G κ w p D) :
    Calls Try.prog 23 #[.pointer (some ⟨p, 0, none⟩)] w (Ret fun v w' => v = .int .i64 D.ops.length ∧ w' = w) := by
  obtain ⟨hok, hl, vf, vl, vs, m, hp, ho, hf, h1, h2, hs, hw⟩ := h
  have hc1 : w.cell? ⟨p, 1, none⟩ = some vl := by rw [cell_block hp]; rfl
  apply enter23
  apply R_in
  simp (maxSteps := 600000) (disch := omega) only [F23, ↓sy1, sy2, sy3, readOK, sy5, sy6, Nat.reduceEqDiff, ↓reduceIte, sy7, sy8, sy9, sya, oneOf, syb, syc, Nat.reduceAdd, Nat.reduceMul, syd, sye, syf, syg, syh, reduceCtorEq, hc1, h2.len]
  exact R_out trivial
theorem sectors_nil {w : World} : Calls Try.prog 48 #[.pointer none] w (Ret fun v w' => v = .int .i64 0 ∧ w' = w) := by
  apply enter48
  apply R_in
  simp (maxSteps := 600000) (disch := omega) only [F48, ↓sy1, sy2, sy3, readOK, sy5, sy6, Nat.reduceEqDiff, ↓reduceIte, sy7, sy8, sy9, sya, oneOf, syb, syc, Nat.reduceAdd, Nat.reduceMul, syd, sye, syf, syg, syh, reduceCtorEq]
  exact R_out trivial
theorem ops_nil {w : World} : Calls Try.prog 23 #[.pointer none] w (Ret fun v w' => v = .int .i64 0 ∧ w' = w) := by
  apply enter23
  apply R_in
  simp (maxSteps := 600000) (disch := omega) only [F23, ↓sy1, sy2, sy3, readOK, sy5, sy6, Nat.reduceEqDiff, ↓reduceIte, sy7, sy8, sy9, sya, oneOf, syb, syc, Nat.reduceAdd, Nat.reduceMul, syd, sye, syf, syg, syh, reduceCtorEq]
  exact R_out trivial
theorem write_nil {w : World} {n : Int} {b : Value} : Calls Try.prog 43 #[.pointer none, .int .i64 n, b] w (Ret fun v w' => v = .int .i64 1 ∧ w' = w) := by
  apply enter43
  apply R_in
  simp (maxSteps := 600000) (disch := omega) only [F43, ↓sy1, sy2, sy3, readOK, sy5, sy6, Nat.reduceEqDiff, ↓reduceIte, sy7, sy8, sy9, sya, oneOf, syb, syc, Nat.reduceAdd, Nat.reduceMul, syd, sye, syf, syg, syh, reduceCtorEq]
  exact R_out trivial
theorem flush_nil {w : World} : Calls Try.prog 44 #[.pointer none] w (Ret fun v w' => v = .int .i64 1 ∧ w' = w) := by
  apply enter44
  apply R_in
  simp (maxSteps := 600000) (disch := omega) only [F44, ↓sy1, sy2, sy3, readOK, sy5, sy6, Nat.reduceEqDiff, ↓reduceIte, sy7, sy8, sy9, sya, oneOf, syb, syc, Nat.reduceAdd, Nat.reduceMul, syd, sye, syf, syg, syh, reduceCtorEq]
  exact R_out trivial
theorem waiting_nil {w : World} : Calls Try.prog 24 #[.pointer none] w (Ret fun v w' => v = .tuple #[.slice none 0 0, .slice none 0 0] ∧ w' = w) := by
  apply enter24
  apply R_in
  simp (maxSteps := 600000) (disch := omega) only [F24, ↓sy1, sy2, sy3, readOK, sy5, sy6, Nat.reduceEqDiff, ↓reduceIte, sy7, sy8, sy9, sya, oneOf, syb, syc, Nat.reduceAdd, Nat.reduceMul, syd, sye, syf, syg, syh, reduceCtorEq]
  exact R_out trivial
theorem cut_nil {w : World} {n : Int} : Calls Try.prog 68 #[.pointer none, .int .i64 n] w (Ret fun v w' => v = .tuple #[.pointer none, .int .i64 1] ∧ w' = w) := by
  apply enter68
  apply R_in
  simp (maxSteps := 600000) (disch := omega) only [F68, ↓sy1, sy2, sy3, readOK, sy5, sy6, Nat.reduceEqDiff, ↓reduceIte, sy7, sy8, sy9, sya, oneOf, syb, syc, Nat.reduceAdd, Nat.reduceMul, syd, sye, syf, syg, syh, reduceCtorEq]
  exact R_out trivial
theorem crash_nil {w : World} {b : Value} : Calls Try.prog 69 #[.pointer none, b] w (Ret fun v w' => v = .tuple #[.pointer none, .int .i64 1] ∧ w' = w) := by
  apply enter69
  apply R_in
  simp (maxSteps := 600000) (disch := omega) only [F69, ↓sy1, sy2, sy3, readOK, sy5, sy6, Nat.reduceEqDiff, ↓reduceIte, sy7, sy8, sy9, sya, oneOf, syb, syc, Nat.reduceAdd, Nat.reduceMul, syd, sye, syf, syg, syh, reduceCtorEq]
  exact R_out trivial
theorem image_nil {w : World} : Calls Try.prog 53 #[.pointer none] w (Ret fun v w' => v = .slice none 0 0 ∧ w' = w) := by
  apply enter53
  apply R_in
  simp (maxSteps := 600000) (disch := omega) only [F53, ↓sy1, sy2, sy3, readOK, sy5, sy6, Nat.reduceEqDiff, ↓reduceIte, sy7, sy8, sy9, sya, oneOf, syb, syc, Nat.reduceAdd, Nat.reduceMul, syd, sye, syf, syg, syh, reduceCtorEq]
  exact R_out trivial
theorem safe_nil {w : World} : Calls Try.prog 65 #[.pointer none] w (Ret fun v w' => v = .slice none 0 0 ∧ w' = w) := by
  apply enter65
  apply R_in
  simp (maxSteps := 600000) (disch := omega) only [F65, ↓sy1, sy2, sy3, readOK, sy5, sy6, Nat.reduceEqDiff, ↓reduceIte, sy7, sy8, sy9, sya, oneOf, syb, syc, Nat.reduceAdd, Nat.reduceMul, syd, sye, syf, syg, syh, reduceCtorEq]
  exact R_out trivial
theorem fork_nil {w : World} : Calls Try.prog 49 #[.pointer none] w (Ret fun v w' => v = .pointer none ∧ w' = w) := by
  apply enter49
  apply R_in
  simp (maxSteps := 600000) (disch := omega) only [F49, ↓sy1, sy2, sy3, readOK, sy5, sy6, Nat.reduceEqDiff, ↓reduceIte, sy7, sy8, sy9, sya, oneOf, syb, syc, Nat.reduceAdd, Nat.reduceMul, syd, sye, syf, syg, syh, reduceCtorEq]
  exact R_out trivial
end Go.Proofs.Ytneehlkofcdhoaa
