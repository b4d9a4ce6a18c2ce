/- What an operation does to the sectors: a write, a flush. -/
import Derived.Test.YtneehlkofcdhoaaGh
import Derived.Test.YtneehlkofcdhoaaCodeB
namespace Go.Proofs.Ytneehlkofcdhoaa
open Go
set_option linter.unusedSimpArgs false
open Go.RowKit (intOf)
/-- Blocks of which nothing is fixed stand, all but one. -/
def Still (m : Nat) (G : Gh) (w : World) (G' : Gh) (w' : World) : Prop := ∀ b, b < w.heap.size → G.fix b = 0 → b ≠ m → w'.heap[b]? = w.heap[b]? ∧ G'.fix b = 0
theorem Still.grow {m : Nat} {G G' : Gh} {w w1 w' : World} (hg : Grow w w1) (h : Still m G w1 G' w') : Still m G w G' w' := fun b hb hf hm => by
  obtain ⟨h1, h2⟩ := h b (Nat.lt_of_lt_of_le hb hg.size) hf hm
  exact ⟨h1.trans (hg.blk b hb id), h2⟩
theorem elemRows : ElemIs Try.prog 46 28 1 24 (.slice none 0 0) := elemR

theorem WaitAt.keys {G : Gh} {κ : Nat} {w : World} {es : Array MapEntry} {q : Nat → List (List UInt8)} (h : ∀ e ∈ es.toList, ∃ n : Nat, e.key = .int .i64 n ∧ WaitV G κ w e.val (q n)) : IntKeyed .i64 es.toList := fun y hy => by
  obtain ⟨n, hn, _⟩ := h y hy; exact ⟨n, hn⟩
/-- What the map has at a sector. -/
theorem WaitAt.lkp {G : Gh} {κ : Nat} {w : World} {m : Nat} {q : Nat → List (List UInt8)} (h : WaitAt G κ w m q) (n : Nat) :
    (q n = [] ∧ lkpV w (.slice none 0 0) false (.map (some m)) (.int .i64 n) = some (.slice none 0 0)) ∨ (∃ v, lkpV w (.slice none 0 0) false (.map (some m)) (.int .i64 n) = some v ∧ WaitV G κ w v (q n)) := by
  obtain ⟨es, clk, h1, h2, h3, h4, h5, h6⟩ := h
  by_cases hq : q n = []
  · refine .inl ⟨hq, lkp_none h1 (WaitAt.keys h4) (findInt_none (WaitAt.keys h4) fun y hy hk => ?_)⟩
    obtain ⟨n', hn', hw⟩ := h4 y hy
    rw [hn'] at hk
    have : n' = n := by simp at hk; omega
    subst this
    obtain ⟨vs, b, c, _, _, _, hne, _⟩ := hw
    exact hne hq
  · obtain ⟨y, hy, hk⟩ := h5 n hq
    obtain ⟨n', hn', hw⟩ := h4 y hy
    have : n' = n := by rw [hn'] at hk; simp at hk; omega
    subst this
    exact .inr ⟨y.val, lkp_eq h1 (WaitAt.keys h4) (findInt_eq (WaitAt.keys h4) h3.keys hy hk), hw⟩

/-- The wait map behind an update. -/
theorem WaitAt.put {G G' : Gh} {κ m : Nat} {w w1 w' : World} {q : Nat → List (List UInt8)} {n : Nat} {b : List UInt8} {v' : Value} (h : WaitAt G κ w m q) (hx : Ext (fun c => c = κ) G w G' w1) (hw : WaitV G' κ w1 v' (q n ++ [b]))
    (hm : w1.heap[m]? = w.heap[m]?) (hk : Keep (fun b => b = m) w1 w')
    (hkeep : ∀ es clk, w.heap[m]? = some (.map es clk) → ∀ y ∈ es.toList, y.key ≠ .int .i64 n → (∀ k, spare y.val = some k → w1.heap[k]? = w.heap[k]? ∧ G'.fix k = G.fix k) ∧ ∀ k, spare y.val = some k → spare v' ≠ some k)
    (hput : ∀ es clk, w.heap[m]? = some (.map es clk) → ((∀ y ∈ es.toList, y.key ≠ .int .i64 n) ∧ w'.heap[m]? = some (.map (es.push ⟨.int .i64 n, v', clk⟩) (clk + 1))) ∨ ∃ j y, es.toList[j]? = some y ∧ y.key = .int .i64 n ∧ w'.heap[m]? = some (.map (es.setIfInBounds j { y with val := v' }) clk)) :
    WaitAt G' κ w' m (fun k => if k = n then q n ++ [b] else q k) := by
  obtain ⟨es, clk, h1, h2, h3, h4, h5, h6⟩ := h
  have hmm := hm.trans h1
  have hx2 : Ext (fun c => c = κ) G' w1 G' w' := .onMap hmm hk (by rw [hx.own m (hx.lt h1)]; exact h2)
  have hspne : ∀ u ls k, WaitV G' κ w1 u ls → spare u = some k → k ≠ m := fun u ls k hu hk he => by
    obtain ⟨_, _, _, _, c, hc⟩ := hu.spare hk
    subst he; rw [hmm] at hc; cases hc
  have hlift : ∀ u ls, WaitV G' κ w1 u ls → WaitV G' κ w' u ls := fun u ls hu => hu.keep hx2 (fun k hk' => ⟨hk.blk k (hu.spare hk').1 (hspne u ls k hu hk'), rfl⟩)
  have hold : ∀ y ∈ es.toList, y.key ≠ .int .i64 n → ∃ n' : Nat, y.key = .int .i64 n' ∧ n' ≠ n ∧ WaitV G' κ w' y.val (q n') := fun y hy hne => by
    obtain ⟨n', hn', hwv⟩ := h4 y hy
    refine ⟨n', hn', fun hc => hne (by rw [hn', hc]), hlift _ _ (hwv.keep hx (hkeep es clk h1 y hy hne).1)⟩
  rcases hput es clk h1 with ⟨hn, hp⟩ | ⟨j, y, hj, hy, hp⟩
  · refine ⟨_, _, hp, by rw [hx.own m (hx.lt h1)]; exact h2, ⟨?_, ?_, ?_⟩, fun z hz => ?_, fun n' hn' => ?_, ?_⟩
    · rw [Array.toList_push, List.pairwise_append]
      refine ⟨h3.keys, by simp, fun a ha c hc => ?_⟩
      simp at hc; subst hc; exact hn a ha
    · rw [Array.toList_push, List.pairwise_append]
      refine ⟨h3.born, by simp, fun a ha c hc => ?_⟩
      simp at hc; subst hc; have := h3.clk a ha; simp only; omega
    · intro z hz
      rw [Array.toList_push, List.mem_append] at hz
      rcases hz with hz | hz
      · have := h3.clk z hz; omega
      · simp at hz; subst hz; simp
    · rw [Array.toList_push, List.mem_append] at hz
      rcases hz with hz | hz
      · obtain ⟨n', h7, h8, h9⟩ := hold z hz (hn z hz)
        exact ⟨n', h7, by simpa [h8] using h9⟩
      · simp at hz; subst hz
        exact ⟨n, rfl, by simpa using hlift _ _ hw⟩
    · by_cases hnn : n' = n
      · subst hnn; exact ⟨⟨.int .i64 n', v', clk⟩, by simp, rfl⟩
      · simp only [if_neg hnn] at hn'
        obtain ⟨z, hz, hk'⟩ := h5 n' hn'
        exact ⟨z, by simp only [Array.toList_push, List.mem_append]; exact .inl hz, hk'⟩
    · rw [Array.toList_push, List.pairwise_append]
      refine ⟨h6, by simp, fun a ha c hc k hk' => ?_⟩
      simp at hc; subst hc; exact (hkeep es clk h1 a ha (hn a ha)).2 k hk'
  · have hjl : j < es.toList.length := (List.getElem?_eq_some_iff.1 hj).1
    have hjy : es.toList[j] = y := (List.getElem?_eq_some_iff.1 hj).2
    have hset : (es.setIfInBounds j { y with val := v' }).toList = es.toList.set j { y with val := v' } := by simp
    have hmem : ∀ z, z ∈ es.toList.set j { y with val := v' } → (z = { y with val := v' }) ∨ (z ∈ es.toList ∧ z.key ≠ .int .i64 n) := fun z hz => by
      obtain ⟨i, hi, hiz⟩ := List.getElem_of_mem hz
      rw [List.getElem_set] at hiz
      split at hiz
      · exact .inl hiz.symm
      · rename_i hne
        have hil : i < es.toList.length := by simpa using hi
        refine .inr ⟨hiz ▸ List.getElem_mem hil, fun hkz => ?_⟩
        have hpw := h3.keys
        rw [List.pairwise_iff_getElem] at hpw
        rcases Nat.lt_or_gt_of_ne hne with hlt | hlt
        · exact hpw j i hjl hil hlt (by rw [hjy, hy, hiz, hkz])
        · exact hpw i j hil hjl hlt (by rw [hjy, hy, hiz, hkz])
    have hpwset : ∀ (R : MapEntry → MapEntry → Prop), es.toList.Pairwise R → (∀ z ∈ es.toList, z.key ≠ .int .i64 n → (R z y → R z { y with val := v' }) ∧ (R y z → R { y with val := v' } z)) → (es.toList.set j { y with val := v' }).Pairwise R := by
      intro R hR hz
      rw [List.pairwise_iff_getElem] at hR ⊢
      intro a c ha hc hac
      have ha' : a < es.toList.length := by simpa using ha
      have hc' : c < es.toList.length := by simpa using hc
      have hrac := hR a c ha' hc' hac
      have hkk := h3.keys
      rw [List.pairwise_iff_getElem] at hkk
      rw [List.getElem_set, List.getElem_set]
      by_cases h7 : j = a
      · have h8 : ¬ j = c := by omega
        rw [if_pos h7, if_neg h8]
        subst h7
        rw [hjy] at hrac
        exact (hz _ (List.getElem_mem hc') (fun hk' => hkk j c ha' hc' hac (by rw [hjy, hy, hk']))).2 hrac
      · rw [if_neg h7]
        by_cases h8 : j = c
        · rw [if_pos h8]
          subst h8
          rw [hjy] at hrac
          exact (hz _ (List.getElem_mem ha') (fun hk' => hkk a j ha' hc' hac (by rw [hjy, hy, hk']))).1 hrac
        · rw [if_neg h8]; exact hrac
    refine ⟨_, _, hp, by rw [hx.own m (hx.lt h1)]; exact h2, ⟨?_, ?_, ?_⟩, fun z hz => ?_, fun n' hn' => ?_, ?_⟩
    · rw [hset]; exact hpwset _ h3.keys (fun z _ _ => ⟨id, id⟩)
    · rw [hset]; exact hpwset _ h3.born (fun z _ _ => ⟨id, id⟩)
    · intro z hz
      rw [hset] at hz
      rcases hmem z hz with rfl | ⟨hz, _⟩
      · exact h3.clk y (hjy ▸ List.getElem_mem hjl)
      · exact h3.clk z hz
    · rw [hset] at hz
      rcases hmem z hz with rfl | ⟨hz, hne⟩
      · exact ⟨n, hy, by simpa using hlift _ _ hw⟩
      · obtain ⟨n', h7, h8, h9⟩ := hold z hz hne
        exact ⟨n', h7, by simpa [h8] using h9⟩
    · rw [hset]
      by_cases hnn : n' = n
      · subst hnn
        exact ⟨{ y with val := v' }, List.mem_iff_getElem.2 ⟨j, by simpa using hjl, by simp⟩, hy⟩
      · simp only [if_neg hnn] at hn'
        obtain ⟨z, hz, hk'⟩ := h5 n' hn'
        obtain ⟨i, hi, hiz⟩ := List.getElem_of_mem hz
        have hij : ¬ j = i := fun hc => by
          subst hc
          rw [hjy] at hiz; subst hiz
          rw [hy] at hk'; simp at hk'; exact hnn (by omega)
        exact ⟨z, List.mem_iff_getElem.2 ⟨i, by simpa using hi, by rw [List.getElem_set, if_neg hij]; exact hiz⟩, hk'⟩
    · rw [hset]
      refine hpwset _ h6 (fun z hz hne => ⟨fun _ k hk' => (hkeep es clk h1 z hz hne).2 k hk', fun _ k hk' hzk => (hkeep es clk h1 z hz hne).2 k hzk hk'⟩)
end Go.Proofs.Ytneehlkofcdhoaa
