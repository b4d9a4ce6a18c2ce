/- The keys of a map, sorted. -/
import Derived.Test.YtneehlkofcdhoaaSo
import Derived.Test.YtneehlkofcdhoaaKeys
namespace Go.Proofs.Ytneehlkofcdhoaa
open Go Go.Shelf Go.WideElems
set_option linter.unusedSimpArgs false
theorem toGrowB {w w' : World} (h : Go.RowKit.Below w.heap.size w w') : Grow w w' := ⟨h.os, h.tape, h.output, h.size, fun b hb _ => h.block b hb⟩
theorem sortsA (m : Nat) : AnyZI.SortsIn Try.prog Try.sortedA_ren Fence.wide m :=
  ⟨fun blk off cap ss W hH hblk hsz => callsIn_wide.2 (Try.slices_Sort_int blk off cap ss W hH hblk hsz),
   fun p cap W => callsIn_wide.2 (Try.slices_Sort_int_none p cap W)⟩
/-- How an entry's value reads: as nothing. -/
def asNil : Value → Option (DataW Unit × List MemPlace) := fun _ => some (.nil, [])
theorem rd_int {y : MapEntry} {a : Int} (hk : y.key = .int .i64 a) (h0 : 0 ≤ a) (h1 : a < 1099511627776) : rd Try.prog 3 asNil y = some (.int .i64 a, .nil) := by
  have hu : Try.prog.underlying 3 = some (.int .i64) := by kernel_rfl
  have hw : (Lit.int .i64 a).wf = true := by
    have e1 : IntKind.i64.min = -9223372036854775808 := by decide
    have e2 : IntKind.i64.max = 9223372036854775807 := by decide
    simp [Lit.wf, e1, e2]; omega
  have hkey : keyOf Try.prog 3 y.key = some (.int .i64 a) := by simp [keyOf, hu, mapKey, hk, hw]
  simp [rd, hkey, asNil]
theorem keys_read : ∀ {l : List MapEntry} {ks : List Int}, l.map (·.key) = ints ks → (∀ a ∈ ks, 0 ≤ a ∧ a < 1099511627776) → (l.map (rg Try.prog 3 asNil)).map (fun p => Go.intOf p.1) = ks
  | [], [], _, _ => rfl
  | [], _ :: _, h, _ => by simp [ints] at h
  | _ :: _, [], h, _ => by simp [ints] at h
  | y :: l, a :: ks, h, hr => by
    simp only [List.map_cons, ints, List.cons.injEq] at h
    have hrg : rg Try.prog 3 asNil y = (.int .i64 a, .nil) := rg_of (rd_int h.1 (hr a (by simp)).1 (hr a (by simp)).2)
    rw [List.map_cons, List.map_cons, hrg]
    show a :: _ = _
    rw [keys_read (l := l) (ks := ks) (by simpa [ints] using h.2) (fun b hb => hr b (by simp [hb]))]
theorem keys_spec {w : World} {m : Nat} : Calls Try.prog 42 #[.map (some m)] w (Ret fun v w' => v = .func (.func 75) #[] #[.pointer (some ⟨w.heap.size, 0, none⟩)] ∧ w' = w.alloc (.cells #[.map (some m)] 74)) := by
  refine (callsIn_wide (n := 5)).1 ?_
  refine (AnyZI.keys_in Try.keysA Fence.wide 5 trivial rfl (some m) w).mono ?_
  rintro e w' ⟨rfl, rfl⟩
  exact ⟨rfl, rfl⟩
theorem sorted_spec {w : World} {B m clk : Nat} {es : Array MapEntry} {ks : List Int} (hB : w.cell? ⟨B, 0, none⟩ = some (.map (some m))) (hm : w.heap[m]? = some (.map es clk)) (hok : MapOk es.toList clk)
    (hk : es.toList.map (·.key) = ints ks) (hr : ∀ a ∈ ks, 0 ≤ a ∧ a < 1099511627776) (hl : ks.length ≤ 1000000) :
    Calls Try.prog 41 #[.func (.func 75) #[] #[.pointer (some ⟨B, 0, none⟩)]] w (Ret fun v w' => w'.ownsRow w.heap.size 3 1 v ks.length (ints (sortI ks)) ∧ Grow w w') := by
  have hlen : es.size = ks.length := by have := congrArg List.length hk; simpa [ints] using this
  have hbl : B < w.heap.size := World.block_lt_of_cell? w _ hB
  have hfit : Fit Try.prog 3 asNil es clk := by
    refine ⟨by unfold maxLen; omega, ⟨hok.clk, ?_, ?_⟩, fun x hx => ?_⟩
    · unfold List.Nodup; rw [List.pairwise_map]; exact hok.born
    · unfold List.Nodup; rw [List.pairwise_map]; exact hok.keys
    · have hx2 : x.key ∈ ints ks := by rw [← hk]; exact List.mem_map.2 ⟨x, hx, rfl⟩
      obtain ⟨a, ha, hxa⟩ := List.mem_map.1 hx2
      exact ⟨_, rd_int hxa.symm (hr a ha).1 (hr a ha).2⟩
  have hown : w.ownsMap Try.prog 3 asNil m es.size (.map ((es.toList.map (rg Try.prog 3 asNil)).foldr DataW.insert [])) := ⟨es, clk, hm, hfit, Nat.le_refl _, rfl⟩
  have hsize : Maps.size (.map ((es.toList.map (rg Try.prog 3 asNil)).foldr DataW.insert []) : DataW Unit) = ks.length := by
    simp only [Maps.size]; rw [(Go.WideShapes.sorted_perm _).length_eq]; simp [hlen]
  have hperm : (Go.intKeys (.map ((es.toList.map (rg Try.prog 3 asNil)).foldr DataW.insert []) : DataW Unit)).Perm ks := by
    have h1 := (Go.WideShapes.sorted_perm (es.toList.map (rg Try.prog 3 asNil))).map (fun p => Go.intOf p.1)
    rw [keys_read hk hr] at h1
    exact h1
  have hseq : SeqGives Fence.wide 2 Try.prog 75 #[.pointer (some ⟨B, 0, none⟩)] encZ (fun ss => ss.Perm (Go.intKeys (.map ((es.toList.map (rg Try.prog 3 asNil)).foldr DataW.insert []) : DataW Unit))) (Maps.size (.map ((es.toList.map (rg Try.prog 3 asNil)).foldr DataW.insert []) : DataW Unit)) w :=
    AnyZI.keys_gives (ρ := Try.keysA_ren) { Try.keysA with } Fence.wide 2 trivial rfl (by omega) B m es.size _ w hbl hB hown
  have cS := AnyZI.sorted_in Try.sortedA Fence.wide 5 trivial trivial trivial trivial rfl (by omega) (sortsA _) (fun args w => run_callFunc (by kernel_rfl)) 75 #[.pointer (some ⟨B, 0, none⟩)] trivial (fun args w => run_callFunc (by kernel_rfl)) _ _ (by rw [hsize]; unfold maxLen; omega) (by rw [hsize]; omega) w hseq
  change CallsIn _ _ Try.prog 41 _ _ _ at cS
  refine (callsIn_wide (n := 5)).1 (cS.mono ?_)
  rintro e w' ⟨v, ss, rfl, hS, hrow, hnil, hb⟩
  have hp := hS.trans hperm
  have hs : ss.mergeSort (fun x y => decide (x ≤ y)) = sortI ks := mergeSort_of_perm_i hp
  rw [hs, hp.length_eq] at hrow
  exact ⟨hrow, toGrowB hb⟩
end Go.Proofs.Ytneehlkofcdhoaa
