/- A write, taken or refused; rows; what is mine. -/
import Derived.Test.YtneehlkofcdhoaaRn
namespace Go.Proofs.Ytneehlkofcdhoaa
open Go
set_option linter.unusedSimpArgs false
open Go.RowKit (intOf)
theorem fill_of2 {e : Env} {a b : Value} {o s : Nat} {x : Operand} : fillV e #[a, b] [(o, (s, x))] = fillF #[a, b] [(o, s, ev e x)] := fill_all _ _
theorem fillF_1of2 {a b x : Value} (hx : isCell x = true) : fillF #[a, b] [(0, 1, x)] = some #[x, b] := by
  rw [fillF_cell hx (by simp), fillF_nil]; simp
/-- A slice up to a place. -/
theorem Has.slcTo {s : Nat} {w : World} {v : Value} {xs : List Value} (h : Has s w v xs) (hs : 0 < s) {m : Nat} (hm : m * s ≤ xs.length) :
    ∃ v', slcF s v none (some (.int .i64 m)) none = some v' ∧ Has s w v' (xs.take (m * s)) := by
  rcases h with ⟨b, o, n, c, rfl, h1, h2, h3⟩ | ⟨rfl, rfl⟩
  · have hmn : m ≤ n := Nat.le_of_mul_le_mul_right (h1 ▸ hm) hs
    refine ⟨.slice (some ⟨b, o, none⟩) m c, ?_, .inl ⟨b, o, m, c, rfl, by rw [List.length_take]; omega, by omega, fun j u hj => ?_⟩⟩
    · simp only [slcF, slcV, bndV]
      rw [if_pos ⟨by omega, by omega⟩]
      simp [add_lit]
    · rw [List.getElem?_take] at hj
      split at hj
      · exact h3 j u hj
      · cases hj
  · have hm0 : m = 0 := by
      rcases Nat.eq_zero_or_pos m with h | h
      · exact h
      · have := Nat.mul_pos h hs; simp at hm; omega
    subst hm0
    exact ⟨.slice none 0 0, by simp [slcF, slcV, bndV], by simpa using Has.nil s w⟩
def wcode (D : Dsk) (n : Int) (b : List UInt8) : Int := if n < 0 ∨ (D.first.length : Int) ≤ n then 2 else if b.length = 512 then 0 else 3
def wdone (D : Dsk) (n : Int) (b : List UInt8) : Dsk := if (0 ≤ n ∧ n < D.first.length) ∧ b.length = 512 then D.add (.wr n.toNat b) else D
theorem wdone_first (D : Dsk) (n : Int) (b : List UInt8) : (wdone D n b).first = D.first := by unfold wdone; split <;> rfl
theorem wdone_ops (D : Dsk) (n : Int) (b : List UInt8) : (wdone D n b).ops.length ≤ D.ops.length + 1 := by unfold wdone; split <;> simp [Dsk.add]
theorem write_any {G : Gh} {κ : Nat} {w : World} {p : Nat} {n : Int} {D : Dsk} {u : Value} {b : List UInt8} (h : DiskAt G κ w p D) (hu : HasB w u b) (hl : D.ops.length < 1000000) :
    Calls Try.prog 43 #[.pointer (some ⟨p, 0, none⟩), .int .i64 n, u] w (Ret fun v w' => v = .int .i64 (wcode D n b) ∧ ∃ G', DiskAt G' κ w' p (wdone D n b) ∧ Ext (fun c => c = κ) G w G' w') := by
  obtain ⟨hb1, hb2⟩ := write_bad (n := n) h hu
  unfold wcode wdone
  by_cases hn : n < 0 ∨ (D.first.length : Int) ≤ n
  · rw [if_pos hn, if_neg (by omega)]
    refine Ret.mono (hb1 hn) fun v w' ⟨hv, hw⟩ => ⟨hv, G, ?_⟩
    subst hw; exact ⟨h, .refl _ _ _⟩
  · by_cases hl : b.length = 512
    · rw [if_neg hn, if_pos hl, if_pos (by omega)]
      obtain ⟨m, rfl⟩ : ∃ m : Nat, n = m := ⟨n.toNat, by omega⟩
      exact write_spec h (by omega) hl hu (by omega)
    · rw [if_neg hn, if_neg hl, if_neg (by omega)]
      refine Ret.mono (hb2 (by omega) (by omega) hl) fun v w' ⟨hv, hw⟩ => ⟨hv, G, ?_⟩
      subst hw; exact ⟨h, .refl _ _ _⟩
theorem rwrite_any {G : Gh} {κ : Nat} {w : World} {p : Nat} {n : Int} {D : Dsk} {u : Value} {b : List UInt8} (h : RefAt G κ w p D) (hu : HasB w u b) (hl : D.ops.length < 1000000) :
    Calls Try.prog 55 #[.pointer (some ⟨p, 0, none⟩), .int .i64 n, u] w (Ret fun v w' => v = .int .i64 (wcode D n b) ∧ ∃ G', RefAt G' κ w' p (wdone D n b) ∧ Ext (fun c => c = κ) G w G' w') := by
  obtain ⟨hb1, hb2⟩ := rwrite_bad (n := n) h hu
  unfold wcode wdone
  by_cases hn : n < 0 ∨ (D.first.length : Int) ≤ n
  · rw [if_pos hn, if_neg (by omega)]
    refine Ret.mono (hb1 hn) fun v w' ⟨hv, hw⟩ => ⟨hv, G, ?_⟩
    subst hw; exact ⟨h, .refl _ _ _⟩
  · by_cases hl : b.length = 512
    · rw [if_neg hn, if_pos hl, if_pos (by omega)]
      obtain ⟨m, rfl⟩ : ∃ m : Nat, n = m := ⟨n.toNat, by omega⟩
      exact rwrite_spec h (by omega) hl hu (by omega)
    · rw [if_neg hn, if_neg hl, if_neg (by omega)]
      refine Ret.mono (hb2 (by omega) (by omega) hl) fun v w' ⟨hv, hw⟩ => ⟨hv, G, ?_⟩
      subst hw; exact ⟨h, .refl _ _ _⟩
theorem Has.lt {k : Nat} {w : World} {v : Value} {xs : List Value} (h : Has k w v xs) (hx : xs ≠ []) {b : Nat} (hb : v.ownBlock = some b) : b < w.heap.size := by
  rcases h with ⟨b', o, n, c, rfl, h1, h2, h3⟩ | ⟨h1, _⟩
  · cases hb
    have hpos : 0 < xs.length := List.length_pos_iff.2 hx
    exact World.block_lt_of_cell? w _ (h3 0 _ (List.getElem?_eq_getElem (l := xs) hpos))
  · exact absurd h1 hx
abbrev Mine : Nat → Prop := fun c => c ≠ 0
end Go.Proofs.Ytneehlkofcdhoaa
