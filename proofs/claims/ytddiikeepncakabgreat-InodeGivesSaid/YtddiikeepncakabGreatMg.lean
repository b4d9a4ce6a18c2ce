/- Texts of one claim, put together in their order. -/
import Derived.Test.YtddiikeepncakabGreatMf
import Derived.Carry
import Derived.Deep.Slices
import Derived.Lib.SmallJoins
import Derived.OpenShut
namespace Go.Proofs.YtddiikeepncakabGreat
open Go
set_option linter.unusedSimpArgs false
open Go.RowKit (intOf)
theorem lit1 (G : Gh) (w : World) (x : UInt8) (o : Nat) : ∃ G', HasB (w.alloc (.cells #[.int .u8 (x.toNat : Int)] 5)) (.slice (some ⟨w.heap.size, 0, none⟩) 1 1) [x] /\ (∀ b, (Value.slice (some ⟨w.heap.size, 0, none⟩) 1 1).ownBlock = some b -> b < (w.alloc (.cells #[.int .u8 (x.toNat : Int)] 5)).heap.size /\ G'.own b = o) /\ Ext0 G w G' (w.alloc (.cells #[.int .u8 (x.toNat : Int)] 5)) := by
  have hg : Grow w (w.alloc (.cells #[.int .u8 (x.toNat : Int)] 5)) := (Keep.refl _ _).alloc _
  refine ⟨G.upto w.heap.size (fun _ => o) (fun _ => 0), Has.new1, fun b hb => ?_, .upto hg _ _⟩
  have hb' : w.heap.size = b := Option.some.inj hb
  subst hb'
  exact ⟨by simp, (upto_own (Nat.le_refl _)).1⟩
theorem noRoom_no {c : Csh} {free want most : Nat} (h : NoRoom c free want most) (hN : c.N <= c.cap) (hf : want <= free) : False := by
  rcases h with h | ⟨h, _⟩ <;> omega
theorem store15 {G : Gh} {w : World} {cs : List Value} (hl : cs.length = 15) (hc : ∀ u ∈ cs, isCell u = true) : ∃ w' G', stnF (w.alloc (.cells (Value.agg (Array.replicate 15 (.int .i64 0))).cells 35)) 15 (.pointer (some ⟨w.heap.size, 0, none⟩)) (.agg cs.toArray) = some (undef, w') /\ w'.heap[w.heap.size]? = some (.cells cs.toArray 35 (0, 0)) /\ G'.own w.heap.size = 0 /\ Ext0 G w G' w' := by
  have hg : Grow w (w.alloc (.cells (Value.agg (Array.replicate 15 (.int .i64 0))).cells 35)) := (Keep.refl _ _).alloc _
  obtain ⟨w4, hs4, hb4, hk4⟩ := storeN_cells cs _ _ 0 (heap_alloc_new w (.cells (Value.agg (Array.replicate 15 (.int .i64 0))).cells 35)) (by rw [hl]; simp [Value.cells]) hc
  refine ⟨w4, G.upto w.heap.size (fun _ => 0) (fun _ => 0), ?_, ?_, (upto_own (Nat.le_refl _)).1, .upto (hg.then hk4 (fun b hb hh => by omega)) _ _⟩
  · simp only [stnF, Value.cells, List.size_toArray, hl, if_true]
    exact congrArg (Option.map fun w => (undef, w)) hs4
  · rw [hb4]
    simp only [List.take_zero, List.nil_append]
    rw [List.drop_eq_nil_of_le (by rw [hl]; simp [Value.cells]), List.append_nil]
theorem take15_len (o : Opn) : (o.cells.take 15).length = 15 := by rw [List.length_take, Opn.cells_length]; rfl
theorem take15_cell (o : Opn) : ∀ u ∈ o.cells.take 15, isCell u = true := fun u hu => o.cells_one u (List.mem_of_mem_take hu)
theorem take15_at (o : Opn) {j : Nat} (h : j < 15) : (o.cells.take 15)[j]? = some (.int .i64 (o.cell j)) := by
  rw [List.getElem?_take, if_pos h, o.cells_get (by omega)]
theorem lookC_ok {F : Nat -> Option Opn} {k j : Nat} {o : Opn} (h1 : 1 <= j) (h2 : j < k) (hF : F j = some o) : lookC F k j = 0 /\ lookO F k j = o := by
  have hno : ¬((j : Int) < 1 \/ (k : Int) <= (j : Int)) := by omega
  refine ⟨?_, ?_⟩
  · unfold lookC
    rw [if_neg hno, Int.toNat_natCast, hF]; rfl
  · unfold lookO
    rw [if_neg hno, Int.toNat_natCast, hF]; rfl
set_option maxRecDepth 20000 in
set_option maxHeartbeats 4000000 in
theorem live6_spec (w : World) : Calls Tryz.prog 6 #[] w (Ret fun v w' => v = .bool true /\ Grow w w') := by
  apply enter6
  apply R_in
  simp (maxSteps := 999999) (disch := omega) only [↓sy1, sZ, readOK, Nat.reduceEqDiff, ↓reduceIte, oneOf, Nat.reduceAdd, Nat.reduceMul, reduceCtorEq, F6]
  refine call0 (opened_spec (pages := 40) (by omega) (by omega)) ?_
  rintro _ w1 ⟨s, r, m, p, lq, c, G1, rfl, hf, hR, hx1⟩
  obtain ⟨h1, hN, hcap, hdr, hops⟩ := hf
  rw [show upto1 (3 + 16 / 8) 40 = upto1 5 40 from rfl] at h1
  simp (maxSteps := 999999) (disch := omega) only [↓sy1, sZ, readOK, Nat.reduceEqDiff, ↓reduceIte, oneOf, Nat.reduceAdd, Nat.reduceMul, reduceCtorEq]
  refine call0 (imake_spec h1 (kd := 1) (md := 420)) ?_
  rintro _ w2 ⟨G2, hx2, hM⟩
  have hmk : mkC 1 420 = 0 := by unfold mkC; rw [if_pos (by omega)]
  have hfI : firstN (upto1 1 16) = 1 := firstN_upto (by omega)
  rcases hM with ⟨h0, _⟩ | ⟨_, rfl, c2, h2, _, hd2⟩ | ⟨_, _, _, hno⟩
  · exact absurd hmk h0
  rotate_left
  · exact (noRoom_no hno (by omega) (by rw [freeN_upto (by omega)]; omega)).elim
  rw [hfI, show (upto1 1 16).set 1 true = upto1 2 16 from upto1_set (by omega)] at h2
  rw [hfI]
  generalize hF2 : upF (fun _ => none) 1 (some (Opn.new (1 : Int).toNat (420 : Int).toNat 1)) = F2 at h2
  generalize upB (fun _ => []) 1 [] = B2 at h2
  have hF21 : F2 1 = some (Opn.new 1 420 1) := by rw [<- hF2, upF_same]; rfl
  obtain ⟨G3, hrow3, hown3, hx3⟩ := lit1 G2 w2 97 0
  have h3 := h2.ext hx3 id id id
  have hro3 : RowO (KW 2 7) G3 (w2.alloc (.cells #[.int .u8 ((97 : UInt8).toNat : Int)] 5)) (.slice (some ⟨w2.heap.size, 0, none⟩) 1 1) [97] := ⟨hrow3, fun b hb => ⟨(hown3 b hb).1, by rw [(hown3 b hb).2]; unfold KW; omega⟩⟩
  have h97 : ((97 : UInt8).toNat : Int) = 97 := rfl
  rw [h97] at hx3 h3 hro3
  simp (maxSteps := 999999) (disch := omega) only [↓sy1, sZ, readOK, Nat.reduceEqDiff, ↓reduceIte, oneOf, Nat.reduceAdd, Nat.reduceMul, reduceCtorEq, fill_one, oneF_int]
  generalize w2.alloc (.cells #[.int .u8 97] 5) = w3 at hx3 h3 hro3 |-
  refine call0 (iwrite_file_spec h3 (i := 1) (pos := 5120) hro3 (by simp) (by omega)) ?_
  rintro _ w4 ⟨G4, hx4, hW⟩
  have hlk := lookC_ok (k := 16) (j := 1) (by omega) (by omega) hF21
  have hwc : wrC F2 (upto1 2 16).length 1 5120 [(97 : UInt8)].length = 0 := by
    unfold wrC
    rw [upto1_length, show (1 : Int) = ((1 : Nat) : Int) from rfl, hlk.1, if_neg (by simp), if_neg (by omega), if_neg (by simp)]
  have hneed : needN 5121 = 12 := by decide
  rcases hW with ⟨h0, _⟩ | ⟨_, h0, _⟩ | ⟨_, _, j, o, n, hj, hn, hFo, hT⟩
  · exact absurd hwc h0
  · cases h0
  have hj1 : j = 1 := by omega
  have hn1 : n = 5120 := by omega
  subst hj1; subst hn1
  rw [hF21] at hFo
  have ho := Option.some.inj hFo
  have hos : o.size = 0 := by rw [<- ho]; rfl
  rw [hos] at hT
  have hmax : max 0 (5120 + [(97 : UInt8)].length) = 5121 := rfl
  rw [hmax, hneed, show needN 0 = 0 from rfl] at hT
  have hcap2 : c2.cap = c.cap := hd2.cap
  have hN2 := hd2.N
  rcases hT with ⟨rfl, c5, P5, I5, F5, B5, h5, hn5, hI5, ⟨rfl, o5, rfl, rfl, hs5, _, _, _, _, _⟩, _⟩ | ⟨_, _, hno, _⟩
  rotate_left
  · exact (noRoom_no hno (by omega) (by rw [freeN_upto (by omega)]; omega)).elim
  have hF5 : upF F2 1 (some o5) 1 = some o5 := upF_same
  have hlk5 := lookC_ok (k := 16) (j := 1) (by omega) (by omega) hF5
  simp (maxSteps := 999999) (disch := omega) only [↓sy1, sZ, readOK, Nat.reduceEqDiff, ↓reduceIte, oneOf, Nat.reduceAdd, Nat.reduceMul, reduceCtorEq]
  refine call0 (iget_spec h5 (i := 1)) ?_
  rintro _ w6 ⟨rfl, G6, hx6, h6⟩
  rw [upto1_length, show (1 : Int) = ((1 : Nat) : Int) from rfl, hlk5.1, hlk5.2]
  obtain ⟨w7, G7, st7, hb7, ho7, hx7⟩ := store15 (G := G6) (w := w6) (take15_len o5) (take15_cell o5)
  have h7 := h6.ext hx7 id id id
  simp (maxSteps := 999999) (disch := omega) only [↓sy1, sZ, readOK, Nat.reduceEqDiff, ↓reduceIte, oneOf, Nat.reduceAdd, Nat.reduceMul, reduceCtorEq, st7]
  refine call0 (ipages_file_spec (ρ := 9) h7 (by omega) (i := 1)) ?_
  rintro _ w8 ⟨u, G8, rfl, hu, _, hx8, h8⟩
  rw [upto1_length, show (1 : Int) = ((1 : Nat) : Int) from rfl, hlk5.1]
  have hpl : (pgB (upF F2 1 (some o5)) 16 ((1 : Nat) : Int)).length = 12 := by
    unfold pgB
    rw [if_neg (by rw [hlk5.1]; simp), hlk5.2, List.length_map, (h8.fs.ok 1 o5 hF5).own_len, hs5, hneed]
  have hlen : ∀ w', lenF w' 0 u = some (.int .i64 12) := fun w' => by
    have := (Has.own hu).lenI w'
    rw [upto1_length] at this
    rw [this]
    exact congrArg (fun n : Nat => some (Value.int .i64 n)) hpl
  have hb8 := hx8.heap hb7 (by rw [ho7]; omega)
  have hc3 : w8.cell? ⟨w6.heap.size, 3, none⟩ = some (.int .i64 5121) := by
    rw [cell_block hb8]
    have := take15_at o5 (j := 3) (by omega)
    rw [show o5.cell 3 = o5.size from rfl, hs5] at this
    simpa using this
  simp (maxSteps := 999999) (disch := omega) only [↓sy1, sZ, readOK, Nat.reduceEqDiff, ↓reduceIte, oneOf, Nat.reduceAdd, Nat.reduceMul, reduceCtorEq, Int.reduceEq, decide_true, hlen, hc3]
  refine call0 (need_spec (n := 5121)) ?_
  rintro _ w9 ⟨rfl, hw9⟩
  subst w9
  have hnc : needC 5121 = 12 := by
    unfold needC
    rw [if_neg (by omega), show (5121 : Int).toNat = 5121 from rfl, hneed]; rfl
  simp (maxSteps := 999999) (disch := omega) only [↓sy1, sZ, readOK, Nat.reduceEqDiff, ↓reduceIte, oneOf, Nat.reduceAdd, Nat.reduceMul, reduceCtorEq, hnc, decide_true]
  refine R_out (Ext.toGrow (κ := KN) (G' := G8) ?_ (by simp))
  exact ((((((hx1.trans (hx2.mono (KN.of (by unfold KW; omega)))).trans (hx3.mono fE)).trans (hx4.mono (KN.of (by unfold KW; omega)))).trans (hx6.mono (KN.of (by omega)))).trans (hx7.mono fE)).trans (hx8.mono (KN.of (by omega))))
section
variable {G : Gh} {κ μ m p lq came s j : Nat} {w : World} {c : Csh} {P I : List Bool} {F : Nat -> Option Opn} {B : Nat -> List UInt8} {o : Opn} {bv : Value} {d : List UInt8}
theorem Ino.blen (h : Ino G κ μ w s m p lq came c P I F B) (hF : F j = some o) : (B j).length = o.size /\ o.size <= 70656 /\ 1 <= j /\ j < I.length := ⟨(h.fs.recs j o hF).len, (h.fs.ok j o hF).size, (h.fs.i_lt hF).1, (h.fs.i_lt hF).2.1⟩
end
structure Deed6 where
  kind : Int
  i : Int
  at_ : Int
  n : Int
  node : Int
  mode : Int
  links : Int
  byte : UInt8
def Deed6.cells (x : Deed6) : List Value := [.int .i64 x.kind, .int .i64 x.i, .int .i64 x.at_, .int .i64 x.n, .int .i64 x.node, .int .i64 x.mode, .int .i64 x.links, .int .u8 (x.byte.toNat : Int)]
def Deed6.val (x : Deed6) : Value := .agg x.cells.toArray
def Deed6.len (x : Deed6) : Nat := if x.n < 0 \/ 8000 < x.n then 8000 else x.n.toNat
def Deed6.data (x : Deed6) : List UInt8 := (List.range x.len).map fun i => x.byte + UInt8.ofNat (i % 251)
theorem Deed6.data_length (x : Deed6) : x.data.length = x.len := by simp [Deed6.data]
theorem Deed6.len_le (x : Deed6) : x.len <= 8000 := by unfold Deed6.len; split <;> omega
theorem deed_cell {w : World} {b j : Nat} {x : Deed6} {t : TypeId} (h : w.heap[b]? = some (.cells x.cells.toArray t (0, 0))) : w.cell? ⟨b, j, none⟩ = x.cells[j]? := by rw [cell_block h]; simp
theorem byte_sum (x : UInt8) {i : Nat} (h : i < 251) : ((x.toNat : Int) + ((i : Nat) : Int)) % 256 = ((x + UInt8.ofNat i).toNat : Int) := by
  rw [UInt8.toNat_add, UInt8.toNat_ofNat', Nat.mod_eq_of_lt (show i < 2 ^ 8 by omega)]
  omega
set_option maxHeartbeats 2000000 in
theorem d6bytes_spec {w : World} (x : Deed6) :
    Calls Tryz.prog 28 #[x.val] w (Ret fun v w' => w'.ownsRow w.heap.size 5 1 v x.data.length (bs x.data) /\ Grow w w') := by
  have hcells : x.val.cells = x.cells.toArray := rfl
  have hb0 := heap_alloc_new w (.cells x.cells.toArray 31)
  have hg0 : Grow w (w.alloc (.cells x.cells.toArray 31)) := (Keep.refl _ _).alloc _
  apply enter28
  apply R_in
  simp (maxSteps := 999999) (disch := omega) only [↓sy1, sZ, readOK, Nat.reduceEqDiff, ↓reduceIte, oneOf, Nat.reduceAdd, Nat.reduceMul, reduceCtorEq, F28, hcells]
  generalize w.alloc (.cells x.cells.toArray 31) = w0 at hb0 hg0 |-
  have hB0 : w.heap.size < w0.heap.size := (Array.getElem?_eq_some_iff.1 hb0).1
  have hc3 : w0.cell? ⟨w.heap.size, 3, none⟩ = some (.int .i64 x.n) := by rw [deed_cell hb0]; rfl
  have hc7 : ∀ {w'}, Grow w0 w' -> w'.cell? ⟨w.heap.size, 7, none⟩ = some (.int .u8 (x.byte.toNat : Int)) := fun hg => by rw [deed_cell (hg.gheap hb0)]; rfl
  have hlen := x.data_length
  have hle := x.len_le
  have hget : ∀ {i : Nat}, i < x.len -> x.data[i]? = some (x.byte + UInt8.ofNat (i % 251)) := fun {i} hi => by simp [Deed6.data, hi]
  have fin : ∀ (e : Env), e 3 = .int .i64 x.len -> e 1 = .pointer (some ⟨w.heap.size, 0, none⟩) -> R (symS 31 Tryz.prog ((SCode.ops [⟨some 14, .mv (.tmp 3), none⟩, ⟨some 15, .hard (H (.makeSlice 74 (.tmp 14) (.tmp 14)) 74), none⟩, ⟨some 4, .mv (.tmp 15), none⟩]).seq
      (((SCode.ops [⟨some 5, .mv (.const (.int .i64 0)), none⟩]).seq (SCode.block 0 (.loop F28_L0))).seq ((SCode.ops [⟨some 30, .mv (.tmp 4), none⟩, ⟨some 2, .mv (.tmp 30), none⟩]).seq SCode.ret)))
      ⟨fun e w' => w'.ownsRow w.heap.size 5 1 (e 2) x.data.length (bs x.data) /\ Grow w w', fun _ _ _ => False, fun e w' => w'.ownsRow w.heap.size 5 1 (e 2) x.data.length (bs x.data) /\ Grow w w', NoPanic⟩ e w0) := by
    intro e e3 e1
    simp (maxSteps := 999999) (disch := omega) only [↓sy1, sZ, readOK, Nat.reduceEqDiff, ↓reduceIte, oneOf, Nat.reduceAdd, Nat.reduceMul, reduceCtorEq, e3]
    refine mk_rule elemB (kx := .i64) (ky := .i64) (a := x.len) (c := x.len) (by simp only [upd_at, Nat.reduceEqDiff, reduceIte, ev_tmp, ev_const, List.map_cons, List.map_nil, e3]) (by simp only [upd_at, Nat.reduceEqDiff, reduceIte, ev_tmp, ev_const, List.map_cons, List.map_nil, e3]) (by omega) (by omega) (by omega) (by omega) rfl ?_
    have hg1 : Grow w0 (w0.alloc (.cells (Array.replicate (x.len : Int).toNat (.int .u8 0)) 5)) := (Keep.refl _ _).alloc _
    have ho1 := own_made w0 w0.heap.size (Nat.le_refl _) 5 (x.len : Int).toNat (by rw [Int.toNat_natCast]; omega) (.int .u8 0)
    generalize w0.alloc (.cells (Array.replicate (x.len : Int).toNat (.int .u8 0)) 5) = w1 at hg1 ho1 |-
    rw [Int.toNat_natCast] at ho1 |-
    generalize (Value.slice (some ⟨w0.heap.size, 0, none⟩) x.len x.len) = bv at ho1 |-
    simp (maxSteps := 999999) (disch := omega) only [↓sy1, sZ, readOK, Nat.reduceEqDiff, ↓reduceIte, oneOf, Nat.reduceAdd, Nat.reduceMul, reduceCtorEq]
    refine loop_rule (fun e w' => ∃ k : Nat, k <= x.len /\ e 5 = .int .i64 k /\ e 4 = bv /\ e 3 = .int .i64 x.len /\ e 1 = .pointer (some ⟨w.heap.size, 0, none⟩) /\ Grow w0 w' /\
        w'.ownsRow w0.heap.size 5 1 bv x.len (bs (x.data.take k) ++ List.replicate (x.len - k) (.int .u8 0))) (fun e _ => x.len - (intOf (e 5)).toNat)
      ⟨0, by omega, by simp [upd, updO, ev], by simp [upd, updO, ev], by simp [upd, updO, ev, e3], by simp [upd, updO, ev, e1], hg1, by simpa [bs] using ho1⟩ ?_
    clear e3 e1
    rintro e w3 ⟨k, hk, e5, e4, e3, e1, hg3, ho3⟩
    by_cases hlt : k < x.len
    · obtain ⟨a, w4, ha, hst, ho4, hk4, hbk⟩ := own_store ho3 hlt (u := .int .u8 ((x.byte + UInt8.ofNat (k % 251)).toNat : Int)) rfl
      have hrem : ((k : Nat) : Int).tmod 251 = ((k % 251 : Nat) : Int) := rfl
      simp (maxSteps := 999999) (disch := omega) only [↓sy1, sZ, readOK, Nat.reduceEqDiff, ↓reduceIte, oneOf, Nat.reduceAdd, Nat.reduceMul, reduceCtorEq, F28_L0, e5, e4, e3, e1, Int.ofNat_lt, hlt, decide_true, hc7 hg3, hrem, show ((k % 251 : Nat) : Int) % 256 = ((k % 251 : Nat) : Int) from by omega, byte_sum x.byte (i := k % 251) (by omega), ha, hst]
      refine R_out ⟨⟨k + 1, by omega, rfl, hg3.then hk4 (fun b hb h => by have := (World.ownsRow.lt ho3 b h).1; omega), ?_⟩, by simp only [intOf]; omega⟩
      have htk : (bs (x.data.take k)).length = k := by rw [bs_length, List.length_take, hlen]; omega
      have : (bs (x.data.take k) ++ List.replicate (x.len - k) (Value.int .u8 0)).set k (.int .u8 ((x.byte + UInt8.ofNat (k % 251)).toNat : Int)) = bs (x.data.take (k + 1)) ++ List.replicate (x.len - (k + 1)) (.int .u8 0) := by
        rw [List.set_append_right _ _ (by omega), htk, Nat.sub_self, show x.len - k = (x.len - (k + 1)) + 1 from by omega, List.replicate_succ, List.set_cons_zero, List.take_add_one, hget hlt]
        simp [bs]
      rw [this] at ho4; exact ho4
    · have hke : k = x.len := by omega
      subst hke
      simp (maxSteps := 999999) (disch := omega) only [↓sy1, sZ, readOK, Nat.reduceEqDiff, ↓reduceIte, oneOf, Nat.reduceAdd, Nat.reduceMul, reduceCtorEq, F28_L0, e5, e4, e3, e1, Int.ofNat_lt, hlt, decide_false]
      refine R_out ⟨?_, hg0.trans hg3⟩
      rw [<- hlen, List.take_length, Nat.sub_self] at ho3
      rw [List.replicate_zero, List.append_nil] at ho3
      exact own_base ho3 (by omega)
  by_cases h0 : x.n < 0
  · have hl : x.len = 8000 := if_pos (.inl h0)
    simp (maxSteps := 999999) (disch := omega) only [↓sy1, sZ, readOK, Nat.reduceEqDiff, ↓reduceIte, oneOf, Nat.reduceAdd, Nat.reduceMul, reduceCtorEq, hc3, h0, decide_true]
    exact fin _ (by simp only [upd, hl]; rfl) (by simp only [upd]; rfl)
  by_cases h1 : 8000 < x.n
  · have hl : x.len = 8000 := if_pos (.inr h1)
    simp (maxSteps := 999999) (disch := omega) only [↓sy1, sZ, readOK, Nat.reduceEqDiff, ↓reduceIte, oneOf, Nat.reduceAdd, Nat.reduceMul, reduceCtorEq, hc3, h0, h1, dy]
    exact fin _ (by simp only [upd, hl]; rfl) (by simp only [upd]; rfl)
  · have hl : x.len = x.n.toNat := if_neg (by omega)
    have hn : x.n = ((x.len : Nat) : Int) := by omega
    simp (maxSteps := 999999) (disch := omega) only [↓sy1, sZ, readOK, Nat.reduceEqDiff, ↓reduceIte, oneOf, Nat.reduceAdd, Nat.reduceMul, reduceCtorEq, hc3, h0, h1, decide_false]
    exact fin _ (by simp only [upd]; rw [<- hn]; rfl) (by simp only [upd]; rfl)
def K8 : Nat -> Prop := fun x => x = 8 \/ x = 11 \/ x = 12
theorem K8.o8 : ∀ x, x = 8 -> K8 x := fun _ h => .inl h
theorem K8.o11 : ∀ x, x = 11 -> K8 x := fun _ h => .inr (.inl h)
theorem K8.o12 : ∀ x, x = 12 -> K8 x := fun _ h => .inr (.inr h)
def Gh.wash (G : Gh) (n o : Nat) : Gh := ⟨fun b => if n <= b /\ G.own b = o then 0 else G.own b, G.fix⟩
section
variable {G G' : Gh} {w w' : World} {n o : Nat}
theorem wash_ne {b : Nat} (h : G.own b ≠ o) : (G.wash n o).own b = G.own b := by simp [Gh.wash, h]
theorem wash_0 {b : Nat} (h : G.own b = 0) : (G.wash n o).own b = 0 := by simp [Gh.wash, h]
theorem Ext.wash {K : Nat -> Prop} (h : Ext K G w G' w') (hn : w.heap.size <= n) : Ext K G w (G'.wash n o) w' := by
  refine ⟨h.os, h.tape, h.output, h.size, fun b hb => ?_, h.fix, h.fixe, h.blk, h.pre⟩
  have : ¬(n <= b /\ G'.own b = o) := fun hh => by omega
  rw [<- h.own b hb]
  simp [Gh.wash, this]
theorem Zero.wash {v : Value} {xs : List Value} (h : Zero G w v xs) : Zero (G.wash n o) w v xs := ⟨h.1, fun b hb hne => ⟨(h.2 b hb hne).1, wash_0 (h.2 b hb hne).2⟩⟩
theorem ZeroK.wash {k : Nat} {v : Value} {xs : List Value} (h : ZeroK k G w v xs) : ZeroK k (G.wash n o) w v xs := ⟨h.1, fun b hb hne => ⟨(h.2 b hb hne).1, wash_0 (h.2 b hb hne).2⟩⟩
theorem RF.wash {cs : List Value} (h : RF G w cs) : RF (G.wash n o) w cs := by
  obtain ⟨kd, md, ln, ind, bv, dv, b, d, rfl, h1, h2, h3, h4⟩ := h
  exact ⟨kd, md, ln, ind, bv, dv, b, d, rfl, h1.wash, h2.wash, h3, h4⟩
theorem RFs.wash {v : Value} {k : Nat} (h : RFs G w v k) : RFs (G.wash n o) w v k := by
  obtain ⟨css, h1, h2, h3⟩ := h
  exact ⟨css, h1, h2.wash, fun cs hc => (h3 cs hc).wash⟩
theorem RM.wash {r : Nat} {P I : List Bool} (h : RM G 8 w r P I) (ho : o ≠ 8) : RM (G.wash n o) 8 w r P I := by
  obtain ⟨h1, h2, h3, h4, h5, pv, iv, h6, h7, h8⟩ := h
  exact ⟨h1, by rw [wash_ne (by rw [h2]; omega)]; exact h2, h3, h4, h5, pv, iv, h6, h7.wash, h8.wash⟩
theorem RK.wash {r : Nat} {P I : List Bool} (h : RK G w r P I) : RK (G.wash n o) w r P I := by
  obtain ⟨h2, h4, h5, pv, iv, h6, h7, h8⟩ := h
  exact ⟨wash_0 h2, h4, h5, pv, iv, h6, h7.wash, h8.wash⟩
theorem RS.wash {r k : Nat} (h : RS G w r k) (h8 : o ≠ 8) (h11 : o ≠ 11) : RS (G.wash n o) w r k := by
  obtain ⟨h1, h2, M, lv, KM, kv, P, I, P2, I2, h3, h4, h5, h6, h7, h9, h10⟩ := h
  exact ⟨by rw [wash_ne (by rw [h1]; omega)]; exact h1, h2, M, lv, KM, kv, P, I, P2, I2, h3, h4.wash h8, h5, h6.wash, h7, h9.wash, h10.wash⟩
theorem OwnR.zero {B m k : Nat} {t : TypeId} {v : Value} {xs : List Value} (hr : OwnR o G v) (ho : w.ownsRow B t k v m xs) (hn : n <= B) : ∀ b, v.ownBlock = some b -> (G.wash n o).own b = 0 := fun b hb => by
  have h1 := (hr b hb).1
  have h2 := (World.ownsRow.lt ho b hb).1
  simp [Gh.wash, h1]; omega
theorem loadN6 {p q : Nat} {cs : List Value} (hl : cs.length = 6) (h : ∀ j < 6, w.cell? ⟨p, q + j, none⟩ = cs[j]?) : loadN w ⟨p, q, none⟩ 0 6 = some cs := by
  match cs, hl with
  | [a, b, c, d, e, f], _ =>
    have h0 := h 0 (by omega)
    have h1 := h 1 (by omega)
    have h2 := h 2 (by omega)
    have h3 := h 3 (by omega)
    have h4 := h 4 (by omega)
    have h5 := h 5 (by omega)
    simp at h0 h1 h2 h3 h4 h5
    simp [loadN, add_lit, h0, h1, h2, h3, h4, h5]
theorem storeN_off {g q : Nat} : ∀ (l : List Value) (w : World) (i : Nat), storeN w ⟨g, q, none⟩ i l = storeN w ⟨g, 0, none⟩ (q + i) l
  | [], w, i => rfl
  | v :: l, w, i => by
    have ih := storeN_off (g := g) (q := q) l
    simp only [storeN, add_lit, Nat.zero_add]
    rw [ih, Nat.add_assoc]
theorem RFs.file {v : Value} {k : Nat} (h : RFs G w v k) {i : Nat} (hi : i < k) : ∃ b q cs, iaF 6 v (.int .i64 i) = some (.pointer (some ⟨b, q, none⟩)) /\ loadN w ⟨b, q, none⟩ 0 6 = some cs /\ (∀ j < 6, w.cell? ⟨b, q + j, none⟩ = cs[j]?) /\ RF G w cs := by
  obtain ⟨css, hl, hz, hf⟩ := h
  have h6 : ∀ cs ∈ css, cs.length = 6 := fun cs hc => (hf cs hc).len
  have hil : i < css.length := by omega
  have hfl := flat6 h6
  obtain ⟨b, q, h1, h2, _⟩ := hz.1.idxk (i := i) (by rw [hfl]; omega)
  have hmem := hf css[i] (List.getElem_mem hil)
  have hc : ∀ j < 6, w.cell? ⟨b, q + j, none⟩ = css[i][j]? := fun j hj => by
    obtain ⟨u, hu, hcu⟩ := h2 j hj
    rw [hcu, <- hu, flat6_at h6 (List.getElem?_eq_getElem hil) hj]
  exact ⟨b, q, css[i], h1, loadN6 hmem.len hc, hc, hmem⟩
theorem flat6_set : ∀ {css : List (List Value)} {i : Nat} {cs : List Value}, (∀ x ∈ css, x.length = 6) -> cs.length = 6 -> i < css.length -> css.flatten.take (i * 6) ++ cs ++ css.flatten.drop (i * 6 + 6) = (css.set i cs).flatten
  | [], i, cs, _, _, hi => by simp at hi
  | c :: css, 0, cs, h, hc, _ => by
    have h1 := h c (by simp)
    simp only [Nat.zero_mul, List.take_zero, List.nil_append, Nat.zero_add, List.flatten_cons, List.set_cons_zero]
    rw [List.drop_left' h1]
  | c :: css, i + 1, cs, h, hc, hi => by
    have h1 := h c (by simp)
    have ih := flat6_set (css := css) (i := i) (cs := cs) (fun x hx => h x (by simp [hx])) hc (by simpa using hi)
    simp only [List.flatten_cons, List.set_cons_succ]
    rw [<- ih, show (i + 1) * 6 = c.length + i * 6 from by omega, List.take_length_add_append, show c.length + i * 6 + 6 = c.length + (i * 6 + 6) from by omega, List.drop_length_add_append]
    simp
end
section
variable {G : Gh} {w : World} {r k : Nat}
theorem RS.parts (h : RS G w r k) : ∃ M lv P I, (∀ w', Grow w w' -> w'.cell? ⟨r, 0, none⟩ = some (.pointer (some ⟨M, 0, none⟩)) /\ w'.cell? ⟨r, 1, none⟩ = some lv) /\ RM G 8 w M P I /\ I.length = k /\ RFs G w lv k /\
    ∀ G' w' P' I', RM G' 8 w' M P' I' -> I'.length = k -> Ext (fun x => x = 8) G w G' w' -> RS G' w' r k := by
  obtain ⟨h1, h2, M, lv, KM, kv, P, I, P2, I2, h3, h4, h5, h6, h7, h9, h10⟩ := h
  refine ⟨M, lv, P, I, fun w' hg => ?_, h4, h5, h9, fun G' w' P' I' hm hi hx => ?_⟩
  · have := hg.gheap h3
    exact ⟨by rw [cell_block this]; rfl, by rw [cell_block this]; rfl⟩
  · have hlt := hx.lt h3
    exact ⟨by rw [hx.own r hlt]; exact h1, by rw [hx.fixe r hlt (by rw [h1]; omega)]; exact h2, M, lv, KM, kv, P', I', P2, I2, hx.heap h3 (by rw [h1]; omega), hm, hi, h6.ext hx (by omega), h7, h9.ext hx (by omega), h10.ext hx (by omega)⟩
theorem rlook_spec (h : RS G w r k) {i : Int} : Calls Tryz.prog 73 #[.pointer (some ⟨r, 0, none⟩), .int .i64 i] w (Ret fun v w' => w' = w /\ ∃ code : Int, v = .int .i64 code /\ (code = 0 -> 1 <= i /\ i < k)) := by
  obtain ⟨M, lv, P, I, hc, hM, hI, hF, _⟩ := h.parts
  have hc0 := (hc w (Keep.refl _ _)).1
  have hc1 := (hc w (Keep.refl _ _)).2
  apply enter73
  apply R_in
  by_cases h1 : i < 1
  · simp (maxSteps := 999999) (disch := omega) only [↓sy1, sZ, readOK, Nat.reduceEqDiff, ↓reduceIte, oneOf, Nat.reduceAdd, Nat.reduceMul, reduceCtorEq, F73, h1, decide_true]
    exact R_out ⟨2, rfl, by omega⟩
  simp (maxSteps := 999999) (disch := omega) only [↓sy1, sZ, readOK, Nat.reduceEqDiff, ↓reduceIte, oneOf, Nat.reduceAdd, Nat.reduceMul, reduceCtorEq, F73, h1, decide_false, hc0]
  refine call0 (rinodes_spec hM) ?_
  rintro _ w1 ⟨rfl, hw1⟩
  subst w1
  rw [hI]
  by_cases h2 : (k : Int) <= i
  · simp (maxSteps := 999999) (disch := omega) only [↓sy1, sZ, readOK, Nat.reduceEqDiff, ↓reduceIte, oneOf, Nat.reduceAdd, Nat.reduceMul, reduceCtorEq, h2, decide_true]
    exact R_out ⟨2, rfl, by omega⟩
  obtain ⟨j, rfl⟩ : ∃ j : Nat, i = j := ⟨i.toNat, by omega⟩
  simp (maxSteps := 999999) (disch := omega) only [↓sy1, sZ, readOK, Nat.reduceEqDiff, ↓reduceIte, oneOf, Nat.reduceAdd, Nat.reduceMul, reduceCtorEq, h2, decide_false, hc0]
  refine call0 (rusedi_spec hM (n := j)) ?_
  rintro _ w1 ⟨rfl, hw1⟩
  subst w1
  cases hu : usedC I (j : Int) with
  | false =>
    simp (maxSteps := 999999) (disch := omega) only [↓sy1, sZ, readOK, Nat.reduceEqDiff, ↓reduceIte, oneOf, Nat.reduceAdd, Nat.reduceMul, reduceCtorEq]
    exact R_out ⟨4, rfl, by omega⟩
  | true =>
    obtain ⟨b, q, cs, hia, _, hcs, hRF⟩ := hF.file (i := j) (by omega)
    obtain ⟨kd, md, ln, ind, bv, dv, bb, dd, rfl, _⟩ := hRF
    have hc0' : w.cell? ⟨b, q, none⟩ = some (.int .i64 kd) := hcs 0 (by omega)
    by_cases h3 : kd = 0
    · simp (maxSteps := 999999) (disch := omega) only [↓sy1, sZ, readOK, Nat.reduceEqDiff, ↓reduceIte, oneOf, Nat.reduceAdd, Nat.reduceMul, reduceCtorEq, hc1, hia, hc0', h3, decide_true]
      exact R_out ⟨4, rfl, by omega⟩
    · simp (maxSteps := 999999) (disch := omega) only [↓sy1, sZ, readOK, Nat.reduceEqDiff, ↓reduceIte, oneOf, Nat.reduceAdd, Nat.reduceMul, reduceCtorEq, hc1, hia, hc0', h3, decide_false]
      exact R_out ⟨0, rfl, by omega⟩
def FileIs (w : World) (r i : Nat) (cs : List Value) : Prop := ∃ lv b q, w.cell? ⟨r, 1, none⟩ = some lv /\ iaF 6 lv (.int .i64 i) = some (.pointer (some ⟨b, q, none⟩)) /\ loadN w ⟨b, q, none⟩ 0 6 = some cs
set_option maxHeartbeats 2000000 in
theorem rsetf_spec (h : RS G w r k) {i : Nat} (hi : i < k) {cs : List Value} (hf : RF G w cs) (hk : k <= 512) :
    Calls Tryz.prog 76 #[.pointer (some ⟨r, 0, none⟩), .int .i64 i, .agg cs.toArray] w (Ret fun _ w' => ∃ G', RS G' w' r k /\ Ext (fun x => x = 11) G w G' w' /\ FileIs w' r i cs) := by
  obtain ⟨h1, h2, M, lv, KM, kv, P, I, P2, I2, h3, h4, h5, h6, h7, h9, h10⟩ := h
  obtain ⟨css, hl, hz, hcf⟩ := id h9
  have h6' : ∀ cs ∈ css, cs.length = 6 := fun cs hc => (hcf cs hc).len
  have hfl := flat6 h6'
  apply enter76
  apply R_in
  have hg1 : Grow w (w.alloc (.cells (Value.agg cs.toArray).cells 138)) := (Keep.refl _ _).alloc _
  have hb1 := heap_alloc_new w (.cells (Value.agg cs.toArray).cells 138)
  simp (maxSteps := 999999) (disch := omega) only [↓sy1, sZ, readOK, Nat.reduceEqDiff, ↓reduceIte, oneOf, Nat.reduceAdd, Nat.reduceMul, reduceCtorEq, F76]
  generalize w.alloc (.cells (Value.agg cs.toArray).cells 138) = w1 at hg1 hb1 |-
  have hl6 : loadN w1 ⟨w.heap.size, 0, none⟩ 0 6 = some cs := loadN6 hf.len (fun j hj => by rw [Nat.zero_add, cell_block hb1]; simp [Value.cells])
  have h31 := hg1.gheap h3
  have hc1 : w1.cell? ⟨r, 1, none⟩ = some lv := by rw [cell_block h31]; rfl
  have hr1 : r < w1.heap.size := (Array.getElem?_eq_some_iff.1 h31).1
  simp (maxSteps := 999999) (disch := omega) only [↓sy1, sZ, readOK, Nat.reduceEqDiff, ↓reduceIte, oneOf, Nat.reduceAdd, Nat.reduceMul, reduceCtorEq, hc1]
  refine app_own (cnt := 0) (m := k) (B := w1.heap.size) (xs := []) elemRF (by simp only [upd_at, Nat.reduceEqDiff, reduceIte, ev_tmp, ev_const, List.map_cons, List.map_nil]) (by simp only [upd_at, Nat.reduceEqDiff, reduceIte, ev_tmp, ev_const, List.map_cons, List.map_nil]) (World.ownsRow_nil _ _ _ _) (hz.1.grow hg1) (by rw [hfl, hl]) (fun u hu => ?_) (by omega) (by omega) (Nat.le_refl _) ?_
  · obtain ⟨c, hc, hu'⟩ := List.mem_flatten.1 hu
    exact (hcf c hc).cells u hu'
  intro lv' w2 ho2 hgb
  have hg2 : Grow w1 w2 := (Keep.grown hgb).mono (fun b _ hh => by cases hh)
  rw [List.nil_append, Nat.zero_add] at ho2
  have hl62 : loadN w2 ⟨w.heap.size, 0, none⟩ 0 6 = some cs := loadN6 hf.len (fun j hj => by rw [Nat.zero_add, cell_block (hg2.gheap hb1)]; simp [Value.cells])
  have hrow : ∃ g cap cur, lv' = .slice (some ⟨g, 0, none⟩) k cap /\ w1.heap.size <= g /\ w2.heap[g]? = some (.cells cur 138 (0, 0)) /\ k <= cap /\ cap <= maxLen /\ cur.size = cap * 6 /\ cur.toList.take (k * 6) = css.flatten := by
    rcases ho2.2 with ⟨_, hk0⟩ | hh
    · omega
    · exact hh
  obtain ⟨g, cap, cur, rfl, hgl, hgc, hkc, hcm, hcs, htk⟩ := hrow
  obtain ⟨w3, st3, hg3c, hk3⟩ := storeN_cells cs w2 cur (i * 6) hgc (by rw [hf.len, hcs]; omega) hf.cells
  have hst : stnF w2 6 (.pointer (some ⟨g, i * 6, none⟩)) (.agg cs.toArray) = some (undef, w3) := by
    simp only [stnF, Value.cells, List.size_toArray, hf.len, if_true]
    rw [storeN_off, Nat.add_zero, st3]; rfl
  have hia : iaF 6 (.slice (some ⟨g, 0, none⟩) k cap) (.int .i64 i) = some (.pointer (some ⟨g, i * 6, none⟩)) := by
    rw [iaF_s (by omega), add_lit]; simp
  have hk3' : Keep (fun b => b = g) w2 w3 := hk3
  have hg03 : Grow w w3 := ((hg1.trans hg2)).then hk3 (fun b hb hh => by have := hg1.size; omega)
  have h33 := hg03.gheap h3
  obtain ⟨w4, st4, hb4, hk4⟩ := cell_store (i := 1) h33 (by simp) (u := .slice (some ⟨g, 0, none⟩) k cap) rfl
  simp (maxSteps := 999999) (disch := omega) only [↓sy1, sZ, readOK, Nat.reduceEqDiff, ↓reduceIte, oneOf, Nat.reduceAdd, Nat.reduceMul, reduceCtorEq, hl62, hia, hst, st4]
  have hx3 : Ext0 G w (G.upto w.heap.size (fun _ => 0) (fun _ => 0)) w3 := .upto hg03 _ _
  have hog := upto_own (G := G) (o := 0) (f := 0) (b := g) (show w.heap.size <= g from by have := hg1.size; omega)
  have hrl : r < w.heap.size := (Array.getElem?_eq_some_iff.1 h3).1
  have hor : (G.upto w.heap.size (fun _ => 0) (fun _ => 0)).own r = 11 /\ (G.upto w.heap.size (fun _ => 0) (fun _ => 0)).fix r = 0 := by
    rw [hx3.own r hrl, hx3.fixe r hrl id]; exact ⟨h1, h2⟩
  have h4' := h4.ext hx3 id id
  have h6'' := h6.ext hx3 id
  have h10' := h10.ext hx3 id
  have hf' := hf.ext hx3 id
  have hcf' : ∀ cs ∈ css, RF (G.upto w.heap.size (fun _ => 0) (fun _ => 0)) w3 cs := fun c hc => (hcf c hc).ext hx3 id
  generalize (G.upto w.heap.size (fun _ => 0) (fun _ => 0)) = G1 at hx3 hog hor h4' h6'' h10' hf' hcf'
  have hx4 : Ext (fun x => x = 11) G1 w3 G1 w4 := .on0 hk4 hor.1 hor.2
  have hnew : RFs G1 w3 (.slice (some ⟨g, 0, none⟩) k cap) k := by
    refine ⟨css.set i cs, by rw [List.length_set, hl], ⟨?_, fun b hb _ => ?_⟩, fun c hc => ?_⟩
    · have hfs := flat6_set h6' hf.len (show i < css.length by omega)
      have hfl2 : (css.set i cs).flatten.length = k * 6 := by
        rw [flat6 (fun c hc => ?_), List.length_set, hl]
        rcases List.mem_or_eq_of_mem_set hc with hc | rfl
        · exact h6' c hc
        · exact hf.len
      refine Has.own (B := 0) (t := 138) (n := k) ⟨hfl2, .inr ⟨g, cap, _, rfl, Nat.zero_le _, hg3c, hkc, hcm, ?_, ?_⟩⟩
      · simp only [List.size_toArray, List.length_append, List.length_take, List.length_drop, Array.length_toList, hf.len, hcs]; omega
      · rw [<- hfs, <- htk]
        simp only [hf.len]
        rw [List.take_take, Nat.min_eq_left (by omega), List.drop_take]
        rw [List.take_append, List.take_of_length_le (by simp only [List.length_append, List.length_take, Array.length_toList, hf.len, hcs]; omega)]
        congr 2
        simp only [List.length_append, List.length_take, Array.length_toList, hf.len, hcs]; omega
    · have hb' : g = b := Option.some.inj hb
      subst hb'
      exact ⟨(Array.getElem?_eq_some_iff.1 hg3c).1, hog.1⟩
    · rcases List.mem_or_eq_of_mem_set hc with hc | rfl
      · exact hcf' c hc
      · exact hf'
  refine R_out ⟨G1, ⟨hor.1, hor.2, M, _, KM, kv, P, I, P2, I2, ?_, h4'.ext hx4 (by omega) (by omega), h5, h6''.ext hx4 (by omega), h7, hnew.ext hx4 (by omega), h10'.ext hx4 (by omega)⟩, (hx3.mono fE).trans hx4, _, g, i * 6, by rw [cell_block hb4]; rfl, hia, ?_⟩
  · rw [hb4]; rfl
  · have hg4 := hk4.heap hg3c (fun hh => by have := hg1.size; omega)
    rw [loadN_cells (o := i * 6) hg4 6 0 (by simp only [List.size_toArray, List.length_append, List.length_take, List.length_drop, Array.length_toList, hf.len, hcs]; omega)]
    simp only [Nat.add_zero]
    rw [List.append_assoc, List.drop_left' (by simp only [List.length_take, Array.length_toList, hcs]; omega), List.take_left' hf.len]
end
theorem rdata_spec {w : World} {n : Nat} (hn : n < 1000000000) : Calls Tryz.prog 117 #[.int .i64 n] w (Ret fun r w' => r = .int .i64 (pagesN n : Nat) /\ w' = w) := by
  apply enter117
  apply R_in
  have h1 : ((n : Int) + 511).tdiv 512 = (pagesN n : Nat) := by
    rw [show (n : Int) + 511 = ((n + 511 : Nat) : Int) from by omega]; rfl
  have h2 : pagesN n < 1000000000 := by unfold pagesN; omega
  simp (maxSteps := 999999) (disch := omega) only [↓sy1, sZ, readOK, Nat.reduceEqDiff, ↓reduceIte, oneOf, Nat.reduceAdd, Nat.reduceMul, reduceCtorEq, F117, h1]
  exact R_out trivial
section
variable {G : Gh} {w : World} {r k : Nat}
set_option maxHeartbeats 1000000 in
theorem rabort_spec (h : RS G w r k) : Calls Tryz.prog 116 #[.pointer (some ⟨r, 0, none⟩)] w (Ret fun _ w' => ∃ G', RS G' w' r k /\ Ext (fun x => x = 11) G w G' w') := by
  obtain ⟨h1, h2, M, lv, KM, kv, P, I, P2, I2, h3, h4, h5, h6, h7, h9, h10⟩ := h
  obtain ⟨r2, r4, r5, pv, iv, hM, hpz, hiz⟩ := id h6
  apply enter116
  apply R_in
  simp (maxSteps := 999999) (disch := omega) only [↓sy1, sZ, readOK, Nat.reduceEqDiff, ↓reduceIte, oneOf, Nat.reduceAdd, Nat.reduceMul, reduceCtorEq, F116]
  refine draw116_0 (fun _ => False) ?_
  have hgd : Grow w w.drew := (Keep.refl _ _).drew
  have hxd : Ext0 G w G w.drew := .grow hgd
  have h3d := hgd.gheap h3
  have hMd := hgd.gheap hM
  generalize w.drew = w0 at hgd hxd h3d hMd |-
  have hc2 : w0.cell? ⟨r, 2, none⟩ = some (.pointer (some ⟨KM, 0, none⟩)) := by rw [cell_block h3d]; rfl
  have hc3 : w0.cell? ⟨r, 3, none⟩ = some kv := by rw [cell_block h3d]; rfl
  simp (maxSteps := 999999) (disch := omega) only [↓sy1, sZ, readOK, Nat.reduceEqDiff, ↓reduceIte, oneOf, Nat.reduceAdd, Nat.reduceMul, reduceCtorEq, PL116_0, hc2, hc3]
  refine call0 (rmfork_spec 0 hMd hpz.1.isCell hiz.1.isCell) ?_
  rintro _ w1 ⟨f, rfl, hf, hF, hg1⟩
  have hx1 : Ext0 G w (G.upto w0.heap.size (fun b => if b = f then 8 else 0) (fun _ => 0)) w1 := hxd.trans (.upto hg1 _ _)
  have hof : (G.upto w0.heap.size (fun b => if b = f then 8 else 0) (fun _ => 0)).own f = 8 /\ (G.upto w0.heap.size (fun b => if b = f then 8 else 0) (fun _ => 0)).fix f = 0 := by simp [Gh.upto, Nat.not_lt.2 hf]
  have hrl : r < w.heap.size := (Array.getElem?_eq_some_iff.1 h3).1
  have ho : (G.upto w0.heap.size (fun b => if b = f then 8 else 0) (fun _ => 0)).own r = 11 /\ (G.upto w0.heap.size (fun b => if b = f then 8 else 0) (fun _ => 0)).fix r = 0 := by
    rw [hx1.own r hrl, hx1.fixe r hrl id]; exact ⟨h1, h2⟩
  have h6' := h6.ext hx1 id
  have h10' := h10.ext hx1 id
  have hK : RM (G.upto w0.heap.size (fun b => if b = f then 8 else 0) (fun _ => 0)) 8 w1 f P2 I2 := ⟨by omega, hof.1, hof.2, r4, r5, pv, iv, hF, hpz.ext hx1 id, hiz.ext hx1 id⟩
  have h3' := hg1.gheap h3d
  generalize (G.upto w0.heap.size (fun b => if b = f then 8 else 0) (fun _ => 0)) = G1 at hx1 ho h6' h10' hK
  obtain ⟨w2, st2, hb2, hk2⟩ := cell_store (i := 0) h3' (by simp) (u := .pointer (some ⟨f, 0, none⟩)) rfl
  obtain ⟨w3, st3, hb3, hk3⟩ := cell_store (i := 1) hb2 (by simp) (u := kv) h10.isCell
  have hx3 : Ext (fun x => x = 11) G1 w1 G1 w3 := .on0 (hk2.trans hk3) ho.1 ho.2
  simp (maxSteps := 999999) (disch := omega) only [↓sy1, sZ, readOK, Nat.reduceEqDiff, ↓reduceIte, oneOf, Nat.reduceAdd, Nat.reduceMul, reduceCtorEq, st2, st3]
  refine ⟨hg1, R_out ⟨G1, ⟨ho.1, ho.2, f, kv, KM, kv, P2, I2, P2, I2, ?_, hK.ext hx3 (by omega) (by omega), h7, h6'.ext hx3 (by omega), h7, h10'.ext hx3 (by omega), h10'.ext hx3 (by omega)⟩, (hx1.mono fE).trans hx3⟩⟩
  rw [hb3]; rfl
theorem rfull_spec (h : RS G w r k) : Calls Tryz.prog 75 #[.pointer (some ⟨r, 0, none⟩)] w (Ret fun v w' => v = .int .i64 7 /\ ∃ G', RS G' w' r k /\ Ext (fun x => x = 11) G w G' w') := by
  apply enter75
  apply R_in
  simp (maxSteps := 999999) (disch := omega) only [↓sy1, sZ, readOK, Nat.reduceEqDiff, ↓reduceIte, oneOf, Nat.reduceAdd, Nat.reduceMul, reduceCtorEq, F75]
  refine call0 (rabort_spec h) ?_
  rintro _ w1 hR
  simp (maxSteps := 999999) (disch := omega) only [↓sy1, sZ, readOK, Nat.reduceEqDiff, ↓reduceIte, oneOf, Nat.reduceAdd, Nat.reduceMul, reduceCtorEq]
  exact R_out hR
end
section rules
variable {k : Kont} {e : Env} {w : World} {l : List GOp} {d : Option Nat}
theorem appI_rule {ρ B n : Nat} {G : Gh} {x y : Operand} {v : Value} {ls ys : List Int} {ty : TypeId} (hx : ev e x = v) (hy : HasI w (ev e y) ys) (ho : w.ownsRow B 3 1 v n (ints ls)) (hr : OwnR ρ G v) (hn : n + ys.length <= 100000000) (hB : B <= w.heap.size)
    (hh : ∀ v' w', w'.ownsRow B 3 1 v' (n + ys.length) (ints (ls ++ ys)) -> OwnR ρ (G.upto w.heap.size (fun _ => ρ) (fun _ => 0)) v' -> Ext (fun c => c = ρ) G w (G.upto w.heap.size (fun _ => ρ) (fun _ => 0)) w' -> Keep (fun b => some b = v.ownBlock) w w' -> R (symOps Tryz.prog l k (updO e d v') w')) :
    R (symOps Tryz.prog (⟨d, .hard (H (.call { callee := .builtin .append, args := #[x, y], argTypes := #[47, 47] }) ty), none⟩ :: l) k e w) := by
  refine app_own2 elemI hx rfl ho hy (m := ys.length) (by simp [ints]) (fun q hq => by obtain ⟨z, _, rfl⟩ := List.mem_map.1 hq; rfl) (by omega) (by omega) hB ?_
  intro v' w' ho' hg' hb'
  have hka := Keep.grown hg'
  have hbb : ints ls ++ ints ys = ints (ls ++ ys) := by simp [ints]
  rw [hbb] at ho'
  refine hh v' w' ho' (fun b hb => ?_) (Ext.app hka hr) hka
  by_cases hlt : b < w.heap.size
  · have hrow : v.ownBlock = some b := by
      rcases hb' with h1 | h1
      · rw [<- h1]; exact hb
      · rw [h1] at hb
        have := Option.some.inj hb
        omega
    have := hr b hrow
    simp [Gh.upto, hlt]; exact this
  · exact upto_own (by omega)
end rules
structure FileB (G : Gh) (w : World) (q : Nat) (kd md ln : Int) (bv dv : Value) (ind : Int) : Prop where
  at_ : w.heap[q]? = some (.cells #[.int .i64 kd, .int .i64 md, .int .i64 ln, bv, dv, .int .i64 ind] 138 (0, 0))
  own : G.own q = 12
  fix : G.fix q = 0
section
variable {G G' : Gh} {w w' : World} {q : Nat} {kd md ln ind : Int} {bv dv : Value}
theorem FileB.ext {K : Nat -> Prop} (h : FileB G w q kd md ln bv dv ind) (hx : Ext K G w G' w') (hk : ¬ K 12) : FileB G' w' q kd md ln bv dv ind := by
  have hlt := hx.lt h.at_
  exact ⟨hx.heap h.at_ (by rw [h.own]; exact hk), by rw [hx.own q hlt]; exact h.own, by rw [hx.fixe q hlt (by rw [h.own]; exact hk)]; exact h.fix⟩
theorem FileB.keep (h : FileB G w q kd md ln bv dv ind) {v : Value} {G' : Gh} (hx : Ext (fun c => c = 12) G w G' w') (hk : Keep (fun b => some b = v.ownBlock) w w') (hq : v.ownBlock ≠ some q) (hf : G'.fix q = G.fix q) : FileB G' w' q kd md ln bv dv ind := by
  have hlt := hx.lt h.at_
  exact ⟨hk.heap h.at_ (fun hh => hq hh.symm), by rw [hx.own q hlt]; exact h.own, by rw [hf]; exact h.fix⟩
theorem FileB.load (h : FileB G w q kd md ln bv dv ind) : loadN w ⟨q, 0, none⟩ 0 6 = some [.int .i64 kd, .int .i64 md, .int .i64 ln, bv, dv, .int .i64 ind] := by
  rw [loadN_cells (o := 0) h.at_ 6 0 (by simp)]; rfl
theorem FileB.c3 (h : FileB G w q kd md ln bv dv ind) : w.cell? ⟨q, 3, none⟩ = some bv := by rw [cell_block h.at_]; rfl
theorem FileB.c4 (h : FileB G w q kd md ln bv dv ind) : w.cell? ⟨q, 4, none⟩ = some dv := by rw [cell_block h.at_]; rfl
theorem FileB.c5 (h : FileB G w q kd md ln bv dv ind) : w.cell? ⟨q, 5, none⟩ = some (.int .i64 ind) := by rw [cell_block h.at_]; rfl
theorem FileB.st5 (h : FileB G w q kd md ln bv dv ind) (n : Int) : ∃ w', stF w (.pointer (some ⟨q, 5, none⟩)) (.int .i64 n) = some (undef, w') /\ FileB G w' q kd md ln bv dv n /\ Ext (fun c => c = 12) G w G w' /\ Keep (fun b => b = q) w w' := by
  obtain ⟨w', hst, hb, hk⟩ := cell_store (i := 5) h.at_ (by simp) (u := .int .i64 n) rfl
  exact ⟨w', hst, ⟨hb, h.own, h.fix⟩, .on0 hk h.own h.fix, hk⟩
theorem fileB_new (G : Gh) (w : World) {cs : List Value} (hf : RF G w cs) : ∃ w' G' kd md ln ind bv dv bb dd, stnF (w.alloc (.cells (Value.agg #[.int .i64 0, .int .i64 0, .int .i64 0, .slice none 0 0, .slice none 0 0, .int .i64 0]).cells 138)) 6 (.pointer (some ⟨w.heap.size, 0, none⟩)) (.agg cs.toArray) = some (undef, w') /\
    FileB G' w' w.heap.size kd md ln bv dv ind /\ Zero G' w' bv (bs bb) /\ Zero G' w' dv (ints dd) /\ bb.length <= 70656 /\ dd.length <= 138 /\ cs = [.int .i64 kd, .int .i64 md, .int .i64 ln, bv, dv, .int .i64 ind] /\ Ext0 G w G' w' := by
  have hg : Grow w (w.alloc (.cells (Value.agg #[.int .i64 0, .int .i64 0, .int .i64 0, .slice none 0 0, .slice none 0 0, .int .i64 0]).cells 138)) := (Keep.refl _ _).alloc _
  obtain ⟨w4, hs4, hb4, hk4⟩ := storeN_cells cs _ _ 0 (heap_alloc_new w (.cells (Value.agg #[.int .i64 0, .int .i64 0, .int .i64 0, .slice none 0 0, .slice none 0 0, .int .i64 0]).cells 138)) (by rw [hf.len]; simp [Value.cells]) hf.cells
  have hg4 : Grow w w4 := hg.then hk4 (fun b hb hh => by omega)
  have hx4 : Ext0 G w (G.upto w.heap.size (fun _ => 12) (fun _ => 0)) w4 := .upto hg4 _ _
  have ho := upto_own (G := G) (o := 12) (f := 0) (Nat.le_refl w.heap.size)
  have hl := hf.len
  obtain ⟨kd, md, ln, ind, bv, dv, bb, dd, rfl, h1, h2, h3, h5⟩ := hf.ext hx4 id
  refine ⟨w4, _, kd, md, ln, ind, bv, dv, bb, dd, ?_, ⟨?_, ho.1, ho.2⟩, h1, h2, h3, h5, rfl, hx4⟩
  · simp only [stnF, Value.cells, List.size_toArray, hl, if_true]
    exact congrArg (Option.map fun w => (undef, w)) hs4
  · rw [hb4]; rfl
end
theorem Has.slcToK {k : Nat} {w : World} {v : Value} {xs : List Value} (h : Has k w v xs) {m : Nat} (hm : m * k <= xs.length) (hk : 0 < k) :
    ∃ v', slcF k v none (some (.int .i64 m)) none = some v' /\ Has k w v' (xs.take (m * k)) := by
  rcases h with ⟨b, o, n, c, rfl, h1, h2, h3⟩ | ⟨rfl, rfl⟩
  · have hmn : m <= n := Nat.le_of_mul_le_mul_right (h1 ▸ hm) hk
    refine ⟨.slice (some ⟨b, o, none⟩) m c, ?_, .inl ⟨b, o, m, c, rfl, by rw [List.length_take]; omega, by omega, fun j u hj => ?_⟩⟩
    · simp only [slcF, slcV, bndV]
      rw [if_pos ⟨by omega, by omega⟩]
      simp [add_lit]
    · rw [List.getElem?_take] at hj
      split at hj
      · exact h3 j u hj
      · cases hj
  · have hm0 : m = 0 := by
      rcases Nat.eq_zero_or_pos m with h | h
      · exact h
      · have := Nat.mul_pos h hk; simp at hm; omega
    subst hm0
    exact ⟨.slice none 0 0, by simp [slcF, slcV, bndV], by simpa using Has.nil k w⟩
def slen : Value -> Nat
  | .slice _ n _ => n
  | _ => 0
theorem own_len {w : World} {B n k : Nat} {el : TypeId} {v : Value} {xs : List Value} (h : w.ownsRow B el k v n xs) : slen v = n := by
  obtain ⟨_, ⟨rfl, rfl⟩ | ⟨g, cap, cur, rfl, _⟩⟩ := h <;> rfl
theorem own_lenF {w : World} {B n : Nat} {el : TypeId} {v : Value} {xs : List Value} (h : w.ownsRow B el 1 v n xs) (w' : World) : lenF w' 0 v = some (.int .i64 n) := by
  rw [(Has.own h).len, h.1, Nat.mul_one]
theorem own_ne_old {w : World} {B n k q : Nat} {el : TypeId} {v : Value} {xs : List Value} (h : w.ownsRow B el k v n xs) (hq : q < B) : v.ownBlock ≠ some q := fun hh => by
  have := (World.ownsRow.lt h q hh).1
  omega
structure RzI (G2 : Gh) (w2 : World) (G : Gh) (w : World) (r k q B0 : Nat) (kd md ln : Int) (bv dv : Value) (ind : Int) (v : Value) (j : Nat) (d : List Int) : Prop where
  rs : RS G w r k
  fb : FileB G w q kd md ln bv dv ind
  row : w.ownsRow B0 3 1 v j (ints d)
  own : OwnR 12 G v
  ext : Ext K8 G2 w2 G w
section
variable {G2 G G' : Gh} {w2 w w' : World} {r k q B0 j : Nat} {kd md ln ind : Int} {bv dv v : Value} {d : List Int}
theorem RzI.e8 (h : RzI G2 w2 G w r k q B0 kd md ln bv dv ind v j d) (hx : Ext (fun x => x = 8) G w G' w') (hr : RS G' w' r k) : RzI G2 w2 G' w' r k q B0 kd md ln bv dv ind v j d :=
  ⟨hr, h.fb.ext hx (by omega), ownR_keep h.own hx h.row (by omega), h.own.ext hx h.row (by omega), h.ext.trans (hx.mono K8.o8)⟩
theorem RzI.grow (h : RzI G2 w2 G w r k q B0 kd md ln bv dv ind v j d) (hg : Grow w w') : RzI G2 w2 G w' r k q B0 kd md ln bv dv ind v j d := by
  have hx : Ext0 G w G w' := .grow hg
  exact ⟨h.rs.ext hx id id id, h.fb.ext hx id, ownR_keep h.own hx h.row id, h.own, h.ext.trans (hx.mono fE)⟩
theorem RzI.st5 (h : RzI G2 w2 G w r k q B0 kd md ln bv dv ind v j d) (hq : q < B0) (n : Int) : ∃ w', stF w (.pointer (some ⟨q, 5, none⟩)) (.int .i64 n) = some (undef, w') /\ RzI G2 w2 G w' r k q B0 kd md ln bv dv n v j d := by
  obtain ⟨w', hst, hb, hx, hk⟩ := h.fb.st5 n
  exact ⟨w', hst, h.rs.ext hx (by omega) (by omega) (by omega), hb, own_keep h.row hk (fun b hr hh => by subst hh; exact own_ne_old h.row hq hr), h.own, h.ext.trans (hx.mono K8.o12)⟩
theorem RzI.page (h : RzI G2 w2 G w r k q B0 kd md ln bv dv ind v j d) : ∃ M, w.cell? ⟨r, 0, none⟩ = some (.pointer (some ⟨M, 0, none⟩)) /\
    Calls Tryz.prog 118 #[.pointer (some ⟨M, 0, none⟩)] w (Ret fun u w' => ∃ (n code : Int) (G' : Gh), u = .tuple #[.int .i64 n, .int .i64 code] /\ RzI G2 w2 G' w' r k q B0 kd md ln bv dv ind v j d) := by
  obtain ⟨M, lv, P, I, hc, hM, hI, hF, hb⟩ := h.rs.parts
  refine ⟨M, (hc w (Keep.refl _ _)).1, Ret.mono (rpage_spec hM) ?_⟩
  rintro _ w' ⟨rfl, G', hM', hx⟩
  exact ⟨_, _, G', rfl, h.e8 hx (hb G' w' _ _ hM' hI hx)⟩
theorem RzI.givep (h : RzI G2 w2 G w r k q B0 kd md ln bv dv ind v j d) : ∃ M, w.cell? ⟨r, 0, none⟩ = some (.pointer (some ⟨M, 0, none⟩)) /\
    ∀ n : Int, Calls Tryz.prog 119 #[.pointer (some ⟨M, 0, none⟩), .int .i64 n] w (Ret fun u w' => ∃ (code : Int) (G' : Gh), u = .int .i64 code /\ RzI G2 w2 G' w' r k q B0 kd md ln bv dv ind v j d) := by
  obtain ⟨M, lv, P, I, hc, hM, hI, hF, hb⟩ := h.rs.parts
  refine ⟨M, (hc w (Keep.refl _ _)).1, fun n => Ret.mono (rgivep_spec hM) ?_⟩
  rintro _ w' ⟨rfl, G', hM', hx⟩
  exact ⟨_, G', rfl, h.e8 hx (hb G' w' _ _ hM' hI hx)⟩
theorem RzI.app (h : RzI G2 w2 G w r k q B0 kd md ln bv dv ind v j d) (hq : q < B0) {v' : Value} {ys : List Int} {n' : Nat} (ho : w'.ownsRow B0 3 1 v' n' (ints (d ++ ys))) (hr : OwnR 12 (G.upto w.heap.size (fun _ => 12) (fun _ => 0)) v') (hx : Ext (fun c => c = 12) G w (G.upto w.heap.size (fun _ => 12) (fun _ => 0)) w') (hk : Keep (fun b => some b = v.ownBlock) w w') :
    RzI G2 w2 (G.upto w.heap.size (fun _ => 12) (fun _ => 0)) w' r k q B0 kd md ln bv dv ind v' n' (d ++ ys) := by
  have hql : q < w.heap.size := (Array.getElem?_eq_some_iff.1 h.fb.at_).1
  exact ⟨h.rs.ext hx (by omega) (by omega) (by omega), h.fb.keep hx hk (own_ne_old h.row hq) (by simp [Gh.upto, hql]), ho, hr, h.ext.trans (hx.mono K8.o12)⟩
theorem RzI.other (h : RzI G2 w2 G w r k q B0 kd md ln bv dv ind v j d) {u : Value} (hvu : ∀ b, v.ownBlock = some b -> u.ownBlock ≠ some b) (huq : u.ownBlock ≠ some q) (hx : Ext (fun c => c = 12) G w (G.upto w.heap.size (fun _ => 12) (fun _ => 0)) w') (hk : Keep (fun b => some b = u.ownBlock) w w') :
    RzI G2 w2 (G.upto w.heap.size (fun _ => 12) (fun _ => 0)) w' r k q B0 kd md ln bv dv ind v j d := by
  have hql : q < w.heap.size := (Array.getElem?_eq_some_iff.1 h.fb.at_).1
  refine ⟨h.rs.ext hx (by omega) (by omega) (by omega), h.fb.keep hx hk huq (by simp [Gh.upto, hql]), own_keep h.row hk (fun b hb hh => hvu b hb hh.symm), fun b hb => ?_, h.ext.trans (hx.mono K8.o12)⟩
  have hlt := (World.ownsRow.lt h.row b hb).2
  have := h.own b hb
  simp [Gh.upto, hlt]; exact this
theorem RzI.cut (h : RzI G2 w2 G w r k q B0 kd md ln bv dv ind v j d) {v' : Value} {m : Nat} {d' : List Int} (ho : w.ownsRow B0 3 1 v' m (ints d')) (hb : v'.ownBlock = v.ownBlock) : RzI G2 w2 G w r k q B0 kd md ln bv dv ind v' m d' :=
  ⟨h.rs, h.fb, ho, fun b hv => h.own b (by rw [<- hb]; exact hv), h.ext⟩
theorem slcTo_block {v' : Value} {xs : List Value} {m b : Nat} (h : Has 1 w v xs) (hs : slcF 1 v none (some (.int .i64 m)) none = some v') (hb : v'.ownBlock = some b) : v.ownBlock = some b := by
  rcases h with ⟨b0, o0, n0, c0, rfl, _, _, _⟩ | ⟨_, rfl⟩
  · simp only [slcF, slcV, bndV, Option.isSome_none, Bool.false_eq_true, if_false] at hs
    split at hs
    · cases hs
    · cases hs
      rw [<- hb]
      split <;> first | rfl | (simp [add_lit]; rfl)
  · simp only [slcF, slcV, bndV, Option.isSome_none, Bool.false_eq_true, if_false] at hs
    split at hs
    · cases hs
    · cases hs
      rw [<- hb]
      split <;> first | rfl | (simp [add_lit]; rfl)
theorem Has.slcToB {l : List UInt8} {m : Nat} (h : HasB w v l) (hm : m <= l.length) : ∃ v', slcF 1 v none (some (.int .i64 m)) none = some v' /\ HasB w v' (l.take m) /\ ∀ b, v'.ownBlock = some b -> v.ownBlock = some b := by
  have hd : bs (l.take m) = (bs l).take (m * 1) := by simp [bs, List.map_take]
  obtain ⟨v', h3, h4⟩ := Has.slcToK h (m := m) (by rw [bs_length]; omega) (by omega)
  exact ⟨v', h3, by show Has 1 w v' (bs (l.take m)); rw [hd]; exact h4, fun b hb => slcTo_block h h3 hb⟩
end
def RzR (G : Gh) (w : World) (r k i sz : Nat) (v : Value) (w' : World) : Prop := ∃ t G', v = .bool t /\ RS G' w' r k /\ Ext K8 G w G' w' /\ (t = true -> ∃ kd md ln ind u d l, FileIs w' r i [.int .i64 kd, .int .i64 md, .int .i64 ln, u, d, .int .i64 ind] /\ HasB w' u l /\ l.length = sz)
set_option maxRecDepth 20000 in
set_option maxHeartbeats 8000000 in
theorem rresize_spec {G : Gh} {w : World} {r k i sz : Nat} (h : RS G w r k) (hi : i < k) (hk512 : k <= 512) (hsz : sz <= 70656) :
    Calls Tryz.prog 77 #[.pointer (some ⟨r, 0, none⟩), .int .i64 i, .int .i64 sz] w (Ret fun v w' => RzR G w r k i sz v w') := by
  obtain ⟨M, lv, P, I, hc, hM, hI, hF, hb⟩ := h.parts
  obtain ⟨b, o, cs, hia, hld, _, hRF⟩ := hF.file hi
  have hc1 := (hc w (Keep.refl _ _)).2
  apply enter77
  apply R_in
  obtain ⟨w1, G1, kd, md, ln, ind, bv, dv, bb, dd, st1, hfb1, hbz, hdz, hbl, hdl, rfl, hx1⟩ := fileB_new G w hRF
  simp (maxSteps := 999999) (disch := omega) only [↓sy1, sZ, readOK, Nat.reduceEqDiff, ↓reduceIte, oneOf, Nat.reduceAdd, Nat.reduceMul, reduceCtorEq, F77, hc1, hia, hld, st1]
  have h1 := h.ext hx1 id id id
  have hs1 : w.heap.size < w1.heap.size := (Array.getElem?_eq_some_iff.1 hfb1.at_).1
  have hpm : pagesN sz <= 138 := by unfold pagesN; omega
  simp (maxSteps := 999999) (disch := omega) only [↓sy1, sZ, readOK, Nat.reduceEqDiff, ↓reduceIte, oneOf, Nat.reduceAdd, Nat.reduceMul, reduceCtorEq, hfb1.c4]
  refine appI_rule (ρ := 12) (B := w1.heap.size) (ls := []) (ys := dd) (G := G1) (by simp only [upd_at, Nat.reduceEqDiff, reduceIte, ev_tmp, ev_const, List.map_cons, List.map_nil]) (by simp only [upd_at, Nat.reduceEqDiff, reduceIte, ev_tmp, ev_const, List.map_cons, List.map_nil]; exact hdz.1) (World.ownsRow_nil _ _ _ _) (fun b hb => by cases hb) (by omega) (Nat.le_refl _) ?_
  intro pv w2 ho2 hor2 hx2 hk2
  rw [List.nil_append, Nat.zero_add] at ho2
  have hq2 : FileB (G1.upto w1.heap.size (fun _ => 12) (fun _ => 0)) w2 w.heap.size kd md ln bv dv ind := hfb1.keep hx2 hk2 (fun hh => by cases hh) (by simp [Gh.upto, hs1])
  have hI2 : RzI G1 w1 (G1.upto w1.heap.size (fun _ => 12) (fun _ => 0)) w2 r k w.heap.size w1.heap.size kd md ln bv dv ind pv dd.length dd :=
    ⟨h1.ext hx2 (by omega) (by omega) (by omega), hq2, ho2, hor2, hx2.mono K8.o12⟩
  generalize (G1.upto w1.heap.size (fun _ => 12) (fun _ => 0)) = G2 at hI2
  clear hx2 hk2 hor2 ho2 hq2
  generalize hq : w.heap.size = q at hI2 hs1 hfb1 |-
  simp (maxSteps := 999999) (disch := omega) only [↓sy1, sZ, readOK, Nat.reduceEqDiff, ↓reduceIte, oneOf, Nat.reduceAdd, Nat.reduceMul, reduceCtorEq]
  refine loop_rule (fun e w' => ∃ (G3 : Gh) (v : Value) (j : Nat) (d : List Int) (ind : Int), RzI G1 w1 G3 w' r k q w1.heap.size kd md ln bv dv ind v j d /\ j <= 138 /\ e 0 = .pointer (some ⟨r, 0, none⟩) /\ e 1 = .int .i64 i /\ e 2 = .int .i64 sz /\ e 7 = .pointer (some ⟨q, 0, none⟩) /\ e 8 = v)
    (fun e _ => pagesN sz - slen (e 8)) ⟨G2, pv, dd.length, dd, ind, hI2, hdl, by simp [upd, updO, ev], by simp [upd, updO, ev], by simp [upd, updO, ev], by simp [upd, updO, ev], by simp [upd, updO, ev]⟩ ?_
  clear hI2
  rintro e w3 ⟨G3, v, j, d, ind3, h3, hj, e0, e1, e2, e7, e8⟩
  have hlen3 : ∀ w', lenF w' 0 v = some (.int .i64 j) := own_lenF h3.row
  have fail : ∀ G' w' ind' v' j' d', RzI G1 w1 G' w' r k q w1.heap.size kd md ln bv dv ind' v' j' d' -> RzR G w r k i sz (.bool false) w' := fun G' w' ind' v' j' d' hz => ⟨false, G', rfl, hz.rs, (hx1.mono fE).trans hz.ext, fun hh => by cases hh⟩
  simp (maxSteps := 999999) (disch := omega) only [↓sy1, sZ, readOK, Nat.reduceEqDiff, ↓reduceIte, oneOf, Nat.reduceAdd, Nat.reduceMul, reduceCtorEq, F77_L0, e0, e1, e2, e7, e8, hlen3]
  refine call0 (rdata_spec (n := sz) (by omega)) ?_
  rintro _ w4 ⟨rfl, hw4⟩
  subst w4
  by_cases hlt : j < pagesN sz
  · 
    by_cases hneed : j = 10 /\ ind3 = 0
    · obtain ⟨hj10, rfl⟩ := hneed
      obtain ⟨M4, hc4, hp4⟩ := h3.page
      simp (maxSteps := 999999) (disch := omega) only [↓sy1, sZ, readOK, Nat.reduceEqDiff, ↓reduceIte, oneOf, Nat.reduceAdd, Nat.reduceMul, reduceCtorEq, e0, e1, e2, e7, e8, Int.ofNat_lt, hlt, hlen3, show ((j : Nat) : Int) = 10 from by omega, show (10 : Int) < ((pagesN sz : Nat) : Int) from by omega, h3.fb.c5, hc4, decide_true]
      refine call0 hp4 ?_
      rintro _ w4 ⟨n4, c4, G4, rfl, h4⟩
      by_cases hz4 : c4 = 0
      · subst hz4
        obtain ⟨w5, st5, h5⟩ := h4.st5 hs1 n4
        simp (maxSteps := 999999) (disch := omega) only [↓sy1, sZ, readOK, Nat.reduceEqDiff, ↓reduceIte, oneOf, Nat.reduceAdd, Nat.reduceMul, reduceCtorEq, e0, e1, e2, e7, e8, dz, st5]
        obtain ⟨Ma, hca, hpa⟩ := h5.page
        simp (maxSteps := 999999) (disch := omega) only [↓sy1, sZ, readOK, Nat.reduceEqDiff, ↓reduceIte, oneOf, Nat.reduceAdd, Nat.reduceMul, reduceCtorEq, e0, e1, e2, e7, e8, hlen3, hca]
        refine call0 hpa ?_
        rintro _ wa ⟨na, ca, Ga, rfl, ha⟩
        by_cases hz : ca = 0
        · subst hz
          simp (maxSteps := 999999) (disch := omega) only [↓sy1, sZ, readOK, Nat.reduceEqDiff, ↓reduceIte, oneOf, Nat.reduceAdd, Nat.reduceMul, reduceCtorEq, e0, e1, e2, e7, e8, hlen3, dz, fill_one, oneF_int]
          have hg : Grow wa (wa.alloc (.cells #[.int .i64 na] 3)) := (Keep.refl _ _).alloc _
          have hn1 : HasI (wa.alloc (.cells #[.int .i64 na] 3)) (.slice (some ⟨wa.heap.size, 0, none⟩) 1 1) [na] := Has.new1
          have hb := ha.grow hg
          generalize wa.alloc (.cells #[.int .i64 na] 3) = wb at hg hn1 hb |-
          refine appI_rule (ρ := 12) (B := w1.heap.size) (ls := d) (ys := [na]) (G := Ga) (by simp only [upd_at, Nat.reduceEqDiff, reduceIte, ev_tmp, ev_const, List.map_cons, List.map_nil]) (by simp only [upd_at, Nat.reduceEqDiff, reduceIte, ev_tmp, ev_const, List.map_cons, List.map_nil]; exact hn1) hb.row hb.own (by simp only [List.length_cons, List.length_nil]; omega) (by have := hb.ext.size; omega) ?_
          intro v' wc hoc hrc hxc hkc
          have hc := hb.app hs1 hoc hrc hxc hkc
          simp (maxSteps := 999999) (disch := omega) only [↓sy1, sZ, readOK, Nat.reduceEqDiff, ↓reduceIte, oneOf, Nat.reduceAdd, Nat.reduceMul, reduceCtorEq, e0, e1, e2, e7, e8]
          refine R_out ⟨⟨_, v', _, _, _, hc, by simp only [List.length_cons, List.length_nil]; omega, rfl⟩, ?_⟩
          have := own_len hc.row
          rw [this, own_len h3.row]
          simp only [List.length_cons, List.length_nil]
          omega
        · simp (maxSteps := 999999) (disch := omega) only [↓sy1, sZ, readOK, Nat.reduceEqDiff, ↓reduceIte, oneOf, Nat.reduceAdd, Nat.reduceMul, reduceCtorEq, e0, e1, e2, e7, e8, hz, not_false_eq_true, dy]
          exact R_out (fail _ _ _ _ _ _ ha)
      · simp (maxSteps := 999999) (disch := omega) only [↓sy1, sZ, readOK, Nat.reduceEqDiff, ↓reduceIte, oneOf, Nat.reduceAdd, Nat.reduceMul, reduceCtorEq, e0, e1, e2, e7, e8, hz4, not_false_eq_true, dy]
        exact R_out (fail _ _ _ _ _ _ h4)
    · by_cases hj10 : j = 10
      · have hi3 : ¬ ind3 = 0 := fun hh => hneed ⟨hj10, hh⟩
        simp (maxSteps := 999999) (disch := omega) only [↓sy1, sZ, readOK, Nat.reduceEqDiff, ↓reduceIte, oneOf, Nat.reduceAdd, Nat.reduceMul, reduceCtorEq, e0, e1, e2, e7, e8, Int.ofNat_lt, hlt, hlen3, show ((j : Nat) : Int) = 10 from by omega, show (10 : Int) < ((pagesN sz : Nat) : Int) from by omega, h3.fb.c5, decide_true, hi3, decide_false]
        obtain ⟨Ma, hca, hpa⟩ := h3.page
        simp (maxSteps := 999999) (disch := omega) only [↓sy1, sZ, readOK, Nat.reduceEqDiff, ↓reduceIte, oneOf, Nat.reduceAdd, Nat.reduceMul, reduceCtorEq, e0, e1, e2, e7, e8, hlen3, hca]
        refine call0 hpa ?_
        rintro _ wa ⟨na, ca, Ga, rfl, ha⟩
        by_cases hz : ca = 0
        · subst hz
          simp (maxSteps := 999999) (disch := omega) only [↓sy1, sZ, readOK, Nat.reduceEqDiff, ↓reduceIte, oneOf, Nat.reduceAdd, Nat.reduceMul, reduceCtorEq, e0, e1, e2, e7, e8, hlen3, dz, fill_one, oneF_int]
          have hg : Grow wa (wa.alloc (.cells #[.int .i64 na] 3)) := (Keep.refl _ _).alloc _
          have hn1 : HasI (wa.alloc (.cells #[.int .i64 na] 3)) (.slice (some ⟨wa.heap.size, 0, none⟩) 1 1) [na] := Has.new1
          have hb := ha.grow hg
          generalize wa.alloc (.cells #[.int .i64 na] 3) = wb at hg hn1 hb |-
          refine appI_rule (ρ := 12) (B := w1.heap.size) (ls := d) (ys := [na]) (G := Ga) (by simp only [upd_at, Nat.reduceEqDiff, reduceIte, ev_tmp, ev_const, List.map_cons, List.map_nil]) (by simp only [upd_at, Nat.reduceEqDiff, reduceIte, ev_tmp, ev_const, List.map_cons, List.map_nil]; exact hn1) hb.row hb.own (by simp only [List.length_cons, List.length_nil]; omega) (by have := hb.ext.size; omega) ?_
          intro v' wc hoc hrc hxc hkc
          have hc := hb.app hs1 hoc hrc hxc hkc
          simp (maxSteps := 999999) (disch := omega) only [↓sy1, sZ, readOK, Nat.reduceEqDiff, ↓reduceIte, oneOf, Nat.reduceAdd, Nat.reduceMul, reduceCtorEq, e0, e1, e2, e7, e8]
          refine R_out ⟨⟨_, v', _, _, _, hc, by simp only [List.length_cons, List.length_nil]; omega, rfl⟩, ?_⟩
          have := own_len hc.row
          rw [this, own_len h3.row]
          simp only [List.length_cons, List.length_nil]
          omega
        · simp (maxSteps := 999999) (disch := omega) only [↓sy1, sZ, readOK, Nat.reduceEqDiff, ↓reduceIte, oneOf, Nat.reduceAdd, Nat.reduceMul, reduceCtorEq, e0, e1, e2, e7, e8, hz, not_false_eq_true, dy]
          exact R_out (fail _ _ _ _ _ _ ha)
      · have hj10' : ¬((j : Nat) : Int) = 10 := by omega
        simp (maxSteps := 999999) (disch := omega) only [↓sy1, sZ, readOK, Nat.reduceEqDiff, ↓reduceIte, oneOf, Nat.reduceAdd, Nat.reduceMul, reduceCtorEq, e0, e1, e2, e7, e8, Int.ofNat_lt, hlt, hlen3, hj10', dy]
        obtain ⟨Ma, hca, hpa⟩ := h3.page
        simp (maxSteps := 999999) (disch := omega) only [↓sy1, sZ, readOK, Nat.reduceEqDiff, ↓reduceIte, oneOf, Nat.reduceAdd, Nat.reduceMul, reduceCtorEq, e0, e1, e2, e7, e8, hlen3, hca]
        refine call0 hpa ?_
        rintro _ wa ⟨na, ca, Ga, rfl, ha⟩
        by_cases hz : ca = 0
        · subst hz
          simp (maxSteps := 999999) (disch := omega) only [↓sy1, sZ, readOK, Nat.reduceEqDiff, ↓reduceIte, oneOf, Nat.reduceAdd, Nat.reduceMul, reduceCtorEq, e0, e1, e2, e7, e8, hlen3, dz, fill_one, oneF_int]
          have hg : Grow wa (wa.alloc (.cells #[.int .i64 na] 3)) := (Keep.refl _ _).alloc _
          have hn1 : HasI (wa.alloc (.cells #[.int .i64 na] 3)) (.slice (some ⟨wa.heap.size, 0, none⟩) 1 1) [na] := Has.new1
          have hb := ha.grow hg
          generalize wa.alloc (.cells #[.int .i64 na] 3) = wb at hg hn1 hb |-
          refine appI_rule (ρ := 12) (B := w1.heap.size) (ls := d) (ys := [na]) (G := Ga) (by simp only [upd_at, Nat.reduceEqDiff, reduceIte, ev_tmp, ev_const, List.map_cons, List.map_nil]) (by simp only [upd_at, Nat.reduceEqDiff, reduceIte, ev_tmp, ev_const, List.map_cons, List.map_nil]; exact hn1) hb.row hb.own (by simp only [List.length_cons, List.length_nil]; omega) (by have := hb.ext.size; omega) ?_
          intro v' wc hoc hrc hxc hkc
          have hc := hb.app hs1 hoc hrc hxc hkc
          simp (maxSteps := 999999) (disch := omega) only [↓sy1, sZ, readOK, Nat.reduceEqDiff, ↓reduceIte, oneOf, Nat.reduceAdd, Nat.reduceMul, reduceCtorEq, e0, e1, e2, e7, e8]
          refine R_out ⟨⟨_, v', _, _, _, hc, by simp only [List.length_cons, List.length_nil]; omega, rfl⟩, ?_⟩
          have := own_len hc.row
          rw [this, own_len h3.row]
          simp only [List.length_cons, List.length_nil]
          omega
        · simp (maxSteps := 999999) (disch := omega) only [↓sy1, sZ, readOK, Nat.reduceEqDiff, ↓reduceIte, oneOf, Nat.reduceAdd, Nat.reduceMul, reduceCtorEq, e0, e1, e2, e7, e8, hz, not_false_eq_true, dy]
          exact R_out (fail _ _ _ _ _ _ ha)
  simp (maxSteps := 999999) (disch := omega) only [↓sy1, sZ, readOK, Nat.reduceEqDiff, ↓reduceIte, oneOf, Nat.reduceAdd, Nat.reduceMul, reduceCtorEq, e0, e1, e2, e7, e8, Int.ofNat_lt, hlt, hlen3, decide_false]
  have hj1 : pagesN sz <= j := by omega
  refine loop_rule (fun e w' => ∃ (G3 : Gh) (v : Value) (j : Nat) (d : List Int) (ind : Int), RzI G1 w1 G3 w' r k q w1.heap.size kd md ln bv dv ind v j d /\ j <= 138 /\ pagesN sz <= j /\ e 0 = .pointer (some ⟨r, 0, none⟩) /\ e 1 = .int .i64 i /\ e 2 = .int .i64 sz /\ e 7 = .pointer (some ⟨q, 0, none⟩) /\ e 8 = v)
    (fun e _ => slen (e 8)) ⟨G3, v, j, d, ind3, h3, hj, hj1, by simp [upd, updO, ev, e0], by simp [upd, updO, ev, e1], by simp [upd, updO, ev, e2], by simp [upd, updO, ev, e7], by simp [upd, updO, ev, e8]⟩ ?_
  clear h3 hj hj1 hlt e0 e1 e2 e7 e8 hlen3 fail e w3 G3 v j d ind3
  rintro e w3 ⟨G3, v, j, d, ind3, h3, hj, hj1, e0, e1, e2, e7, e8⟩
  have hlen3 : ∀ w', lenF w' 0 v = some (.int .i64 j) := own_lenF h3.row
  simp (maxSteps := 999999) (disch := omega) only [↓sy1, sZ, readOK, Nat.reduceEqDiff, ↓reduceIte, oneOf, Nat.reduceAdd, Nat.reduceMul, reduceCtorEq, F77_L1, e0, e1, e2, e7, e8, hlen3]
  refine call0 (rdata_spec (n := sz) (by omega)) ?_
  rintro _ w4 ⟨rfl, hw4⟩
  subst w4
  by_cases hgt : pagesN sz < j
  · have hsub : ((j : Nat) : Int) - 1 = ((j - 1 : Nat) : Int) := by omega
    have hdl3 : d.length = j := by have := h3.row.1; simp [ints] at this; omega
    simp (maxSteps := 999999) (disch := omega) only [↓sy1, sZ, readOK, Nat.reduceEqDiff, ↓reduceIte, oneOf, Nat.reduceAdd, Nat.reduceMul, reduceCtorEq, e0, e1, e2, e7, e8, Int.ofNat_lt, hgt, hlen3, decide_true]
    refine draw77_0 (fun _ => False) ?_
    have hgd : Grow w3 w3.drew := (Keep.refl _ _).drew
    have h4 := h3.grow hgd
    generalize w3.drew = w4 at hgd h4 |-
    obtain ⟨M4, hc4, hp4⟩ := h4.givep
    obtain ⟨a4, hia4, hca4, _⟩ := (Has.own h4.row).getI (i := j - 1) (by omega)
    simp (maxSteps := 999999) (disch := omega) only [↓sy1, sZ, readOK, Nat.reduceEqDiff, ↓reduceIte, oneOf, Nat.reduceAdd, Nat.reduceMul, reduceCtorEq, PL77_0, e0, e1, e2, e7, e8, hlen3, hsub, hc4, hia4, hca4]
    refine call0 (hp4 _) ?_
    rintro _ w5 ⟨c5, G5, rfl, h5⟩
    obtain ⟨v5, hs5, ho5, hb5⟩ := own_slcToV h5.row (m := j - 1) (ys := ints (d.take (j - 1))) (by omega) (by omega) (by simp [ints, List.map_take])
    have h6 := h5.cut ho5 hb5
    have hlen6 : ∀ w', lenF w' 0 v5 = some (.int .i64 (j - 1 : Nat)) := own_lenF h6.row
    by_cases h10 : j - 1 = 10
    · simp (maxSteps := 999999) (disch := omega) only [↓sy1, sZ, readOK, Nat.reduceEqDiff, ↓reduceIte, oneOf, Nat.reduceAdd, Nat.reduceMul, reduceCtorEq, e0, e1, e2, e7, e8, hlen3, hsub, hs5, hlen6, show ((((j - 1 : Nat) : Int) = 10) = True) from eq_true (by omega), decide_true]
      refine draw77_1 (fun _ => False) ?_
      have hgd6 : Grow w5 w5.drew := (Keep.refl _ _).drew
      have h7 := h6.grow hgd6
      generalize w5.drew = w7 at hgd6 h7 |-
      obtain ⟨M7, hc7, hp7⟩ := h7.givep
      simp (maxSteps := 999999) (disch := omega) only [↓sy1, sZ, readOK, Nat.reduceEqDiff, ↓reduceIte, oneOf, Nat.reduceAdd, Nat.reduceMul, reduceCtorEq, PL77_1, e0, e1, e2, e7, e8, hc7, h7.fb.c5]
      refine call0 (hp7 _) ?_
      rintro _ w8 ⟨c8, G8, rfl, h8⟩
      obtain ⟨w9, st9, h9⟩ := h8.st5 hs1 0
      simp (maxSteps := 999999) (disch := omega) only [↓sy1, sZ, readOK, Nat.reduceEqDiff, ↓reduceIte, oneOf, Nat.reduceAdd, Nat.reduceMul, reduceCtorEq, e0, e1, e2, e7, e8, st9]
      refine R_out ⟨⟨G8, v5, _, _, _, h9, by omega, by omega, rfl⟩, ?_⟩
      rw [own_len h9.row, own_len h3.row]
      omega
    · simp (maxSteps := 999999) (disch := omega) only [↓sy1, sZ, readOK, Nat.reduceEqDiff, ↓reduceIte, oneOf, Nat.reduceAdd, Nat.reduceMul, reduceCtorEq, e0, e1, e2, e7, e8, hlen3, hsub, hs5, hlen6, show ¬(((j - 1 : Nat) : Int) = 10) from by omega, decide_false]
      refine R_out ⟨⟨G5, v5, _, _, _, h6, by omega, by omega, rfl⟩, ?_⟩
      rw [own_len h6.row, own_len h3.row]
      omega
  have hbz3 : Zero G3 w3 bv (bs bb) := hbz.ext h3.ext (by unfold K8; omega)
  simp (maxSteps := 999999) (disch := omega) only [↓sy1, sZ, readOK, Nat.reduceEqDiff, ↓reduceIte, oneOf, Nat.reduceAdd, Nat.reduceMul, reduceCtorEq, Int.ofNat_lt, hgt, hlen3, decide_false, e0, e1, e2, e7, e8, h3.fb.c3]
  refine appB_rule (ρ := 12) (B := w3.heap.size) (ls := []) (ys := bb) (G := G3) (by simp only [upd_at, Nat.reduceEqDiff, reduceIte, ev_tmp, ev_const, List.map_cons, List.map_nil]) (by simp only [upd_at, Nat.reduceEqDiff, reduceIte, ev_tmp, ev_const, List.map_cons, List.map_nil]; exact hbz3.1) (World.ownsRow_nil _ _ _ _) (fun b hb => by cases hb) (by omega) (Nat.le_refl _) ?_
  intro u w4 ho4 hor4 hx4 hk4
  rw [List.nil_append, Nat.zero_add] at ho4
  have h4 := h3.other (u := .slice none 0 0) (fun b _ hh => by cases hh) (fun hh => by cases hh) hx4 hk4
  have hvB : ∀ b, v.ownBlock = some b -> b < w3.heap.size := fun b hb => (World.ownsRow.lt h3.row b hb).2
  have hqB : q < w3.heap.size := (Array.getElem?_eq_some_iff.1 h3.fb.at_).1
  generalize (G3.upto w3.heap.size (fun _ => 12) (fun _ => 0)) = G4 at h4 hor4
  have hB4 : w3.heap.size <= w4.heap.size := hx4.size
  have hB13 : w1.heap.size <= w3.heap.size := h3.ext.size
  clear hx4 hk4 hbz3
  generalize hB1 : w3.heap.size = B1 at ho4 hvB hqB hB4 hB13
  simp (maxSteps := 999999) (disch := omega) only [↓sy1, sZ, readOK, Nat.reduceEqDiff, ↓reduceIte, oneOf, Nat.reduceAdd, Nat.reduceMul, reduceCtorEq, e0, e1, e2, e7, e8]
  refine loop_rule (fun e w' => ∃ (G5 : Gh) (u : Value) (l : List UInt8), RzI G1 w1 G5 w' r k q w1.heap.size kd md ln bv dv ind3 v j d /\ w'.ownsRow B1 5 1 u l.length (bs l) /\ OwnR 12 G5 u /\ l.length <= 70656 /\ B1 <= w'.heap.size /\ e 0 = .pointer (some ⟨r, 0, none⟩) /\ e 1 = .int .i64 i /\ e 2 = .int .i64 sz /\ e 7 = .pointer (some ⟨q, 0, none⟩) /\ e 8 = v /\ e 13 = u)
    (fun e _ => sz - slen (e 13)) ⟨G4, u, bb, h4, ho4, hor4, hbl, hB4, by simp [upd, updO, ev, e0], by simp [upd, updO, ev, e1], by simp [upd, updO, ev, e2], by simp [upd, updO, ev, e7], by simp [upd, updO, ev, e8], by simp [upd, updO, ev]⟩ ?_
  clear h4 ho4 hor4 hB4 e0 e1 e2 e7 e8 u w4 G4 e
  rintro e w5 ⟨G5, u, l, h5, ho5, hor5, hl5, hB5, e0, e1, e2, e7, e8, e13⟩
  have hlenu : ∀ w', lenF w' 0 u = some (.int .i64 l.length) := own_lenF ho5
  by_cases hlt : l.length < sz
  · simp (maxSteps := 999999) (disch := omega) only [↓sy1, sZ, readOK, Nat.reduceEqDiff, ↓reduceIte, oneOf, Nat.reduceAdd, Nat.reduceMul, reduceCtorEq, F77_L2, e0, e1, e2, e7, e8, e13, hlenu, Int.ofNat_lt, hlt, decide_true, fill_one, oneF_int]
    have hg : Grow w5 (w5.alloc (.cells #[.int .u8 0] 5)) := (Keep.refl _ _).alloc _
    have hn1 : HasB (w5.alloc (.cells #[.int .u8 0] 5)) (.slice (some ⟨w5.heap.size, 0, none⟩) 1 1) [0] := Has.new1
    have h6 := h5.grow hg
    have ho6 := own_grow ho5 hg
    have hs6 := hg.size
    generalize w5.alloc (.cells #[.int .u8 0] 5) = w6 at hg hn1 h6 ho6 hs6 |-
    refine appB_rule (ρ := 12) (B := B1) (ls := l) (ys := [0]) (G := G5) (by simp only [upd_at, Nat.reduceEqDiff, reduceIte, ev_tmp, ev_const, List.map_cons, List.map_nil]) (by simp only [upd_at, Nat.reduceEqDiff, reduceIte, ev_tmp, ev_const, List.map_cons, List.map_nil]; exact hn1) ho6 hor5 (by simp only [List.length_cons, List.length_nil]; omega) (by omega) ?_
    intro u' w7 ho7 hor7 hx7 hk7
    have h7 := h6.other (u := u) (fun b hb hu => by have := hvB b hb; have := (World.ownsRow.lt ho6 b hu).1; omega) (own_ne_old ho6 hqB) hx7 hk7
    have hs7 := hx7.size
    simp (maxSteps := 999999) (disch := omega) only [↓sy1, sZ, readOK, Nat.reduceEqDiff, ↓reduceIte, oneOf, Nat.reduceAdd, Nat.reduceMul, reduceCtorEq, e0, e1, e2, e7, e8, e13]
    refine R_out ⟨⟨_, u', l ++ [0], h7, by simpa using ho7, hor7, by simp; omega, by omega, rfl⟩, ?_⟩
    rw [own_len ho7, own_len ho5]
    simp only [List.length_cons, List.length_nil]
    omega
  have hle : sz <= l.length := by omega
  simp (maxSteps := 999999) (disch := omega) only [↓sy1, sZ, readOK, Nat.reduceEqDiff, ↓reduceIte, oneOf, Nat.reduceAdd, Nat.reduceMul, reduceCtorEq, F77_L2, e0, e1, e2, e7, e8, e13, hlenu, Int.ofNat_lt, hlt, decide_false]
  refine draw77_2 (fun _ => False) ?_
  have hgd : Grow w5 w5.drew := (Keep.refl _ _).drew
  have h6 := h5.grow hgd
  have ho6 := own_grow ho5 hgd
  generalize w5.drew = w6 at hgd h6 ho6 |-
  obtain ⟨u7, hs7, hu7, hb7⟩ := Has.slcToB (Has.own ho6) hle
  obtain ⟨w8, st8, hb8, hk8⟩ := cell_store (i := 4) h6.fb.at_ (by simp) (u := v) (Has.own h6.row).isCell
  obtain ⟨w9, st9, hb9, hk9⟩ := cell_store (i := 3) hb8 (by simp) (u := u7) hu7.isCell
  have hk := hk8.trans hk9
  have hx9 : Ext (fun c => c = 12) G5 w6 G5 w9 := .on0 hk h6.fb.own h6.fb.fix
  have hl9 : loadN w9 ⟨q, 0, none⟩ 0 6 = some [.int .i64 kd, .int .i64 md, .int .i64 ln, u7, v, .int .i64 ind3] := by
    rw [loadN_cells (o := 0) hb9 6 0 (by simp)]; rfl
  simp (maxSteps := 999999) (disch := omega) only [↓sy1, sZ, readOK, Nat.reduceEqDiff, ↓reduceIte, oneOf, Nat.reduceAdd, Nat.reduceMul, reduceCtorEq, PL77_2, e0, e1, e2, e7, e8, e13, hs7, st8, st9, hl9]
  have hrs9 : RS (G5.wash w1.heap.size 12) w9 r k := (h6.rs.ext hx9 (by omega) (by omega) (by omega)).wash (by omega) (by omega)
  have hu9 : HasB w9 u7 (l.take sz) := hu7.keep hk (fun b hb _ hh => by subst hh; exact own_ne_old ho6 hqB (hb7 b hb))
  have hv9 : w9.ownsRow w1.heap.size 3 1 v j (ints d) := own_keep h6.row hk (fun b hb hh => by subst hh; exact own_ne_old h6.row hs1 hb)
  have hRF : RF (G5.wash w1.heap.size 12) w9 [.int .i64 kd, .int .i64 md, .int .i64 ln, u7, v, .int .i64 ind3] := by
    refine ⟨kd, md, ln, ind3, u7, v, l.take sz, d, rfl, ⟨hu9, fun b hb _ => ⟨?_, ?_⟩⟩, ⟨Has.own hv9, fun b hb _ => ⟨(World.ownsRow.lt hv9 b hb).2, OwnR.zero h6.own hv9 (Nat.le_refl _) b hb⟩⟩, by rw [List.length_take]; omega, by have := hv9.1; simp [ints] at this; omega⟩
    · exact Nat.lt_of_lt_of_le (World.ownsRow.lt ho6 b (hb7 b hb)).2 hk.size
    · exact OwnR.zero hor5 ho6 hB13 b (hb7 b hb)
  have hRFu : Zero (G5.wash w1.heap.size 12) w9 u7 (bs (l.take sz)) := ⟨hu9, fun b hb _ => ⟨Nat.lt_of_lt_of_le (World.ownsRow.lt ho6 b (hb7 b hb)).2 hk.size, OwnR.zero hor5 ho6 hB13 b (hb7 b hb)⟩⟩
  have hxx : Ext K8 G w (G5.wash w1.heap.size 12) w9 := ((hx1.mono fE).trans (h6.ext.trans (hx9.mono K8.o12))).wash (by omega)
  refine call0 (rsetf_spec hrs9 hi hRF hk512) ?_
  rintro _ w10 ⟨G10, h10, hx10, hfi⟩
  simp (maxSteps := 999999) (disch := omega) only [↓sy1, sZ, readOK, Nat.reduceEqDiff, ↓reduceIte, oneOf, Nat.reduceAdd, Nat.reduceMul, reduceCtorEq, e0, e1, e2, e7, e8]
  exact R_out ⟨true, G10, rfl, h10, hxx.trans (hx10.mono K8.o11), fun _ => ⟨kd, md, ln, ind3, u7, v, l.take sz, hfi, (hRFu.ext hx10 (by omega)).1, by rw [List.length_take]; omega⟩⟩
theorem fill_new6 (kd md : Int) : fillF #[.int .i64 0, .int .i64 0, .int .i64 0, .slice none 0 0, .slice none 0 0, .int .i64 0] [(0, 1, .int .i64 kd), (1, 1, .int .i64 md), (2, 1, .int .i64 1)] = some #[.int .i64 kd, .int .i64 md, .int .i64 1, .slice none 0 0, .slice none 0 0, .int .i64 0] := rfl
theorem RF.new (G : Gh) (w : World) (kd md : Int) : RF G w [.int .i64 kd, .int .i64 md, .int .i64 1, .slice none 0 0, .slice none 0 0, .int .i64 0] := ⟨kd, md, 1, 0, _, _, [], [], rfl, ⟨Has.nil _ _, fun b hb => by cases hb⟩, ⟨Has.nil _ _, fun b hb => by cases hb⟩, by simp, by simp⟩
section
variable {G : Gh} {w : World} {r k : Nat}
theorem RS.k512 (h : RS G w r k) : k <= 512 := by
  obtain ⟨h1, h2, M, lv, KM, kv, P, I, P2, I2, h3, h4, h5, _⟩ := h
  have := h4.i5; omega
set_option maxHeartbeats 2000000 in
theorem rmk_spec (h : RS G w r k) {I : List Bool} (hRI : RI G w r I) (hIk : I.length = k) {kd md : Int} :
    Calls Tryz.prog 29 #[.pointer (some ⟨r, 0, none⟩), .int .i64 kd, .int .i64 md] w (Ret fun v w' => v = .tuple #[.int .i64 (if mkC kd md = 0 then (takeN I : Nat) else 0), .int .i64 (if mkC kd md = 0 then takeC I else 2)] /\ ∃ G', RS G' w' r k /\ Ext K8 G w G' w') := by
  obtain ⟨M, lv, P0, I0, hc, _, _, hF, hput⟩ := h.parts
  obtain ⟨M', P, hc0, hM⟩ := hRI
  have hMM : M' = M := by
    have := (hc w (Keep.refl _ _)).1
    rw [hc0] at this
    simp at this; exact this
  subst hMM
  have hk := h.k512
  apply enter29
  apply R_in
  have bad : ∀ hm : mkC kd md = 2, Value.tuple #[.int .i64 0, .int .i64 2] = .tuple #[.int .i64 (if mkC kd md = 0 then (takeN I : Nat) else 0), .int .i64 (if mkC kd md = 0 then takeC I else 2)] /\ ∃ G', RS G' w r k /\ Ext K8 G w G' w := fun hm => by
    rw [hm]; exact ⟨by simp, G, h, .refl _ _ _⟩
  by_cases hkd : 1 <= kd /\ kd <= 3
  rotate_left
  · have hm : mkC kd md = 2 := if_neg (by omega)
    simp (maxSteps := 999999) (disch := omega) only [↓sy1, sZ, readOK, Nat.reduceEqDiff, ↓reduceIte, oneOf, Nat.reduceAdd, Nat.reduceMul, reduceCtorEq, F29, show ¬ kd = 1 from by omega, show ¬ kd = 2 from by omega, show ¬ kd = 3 from by omega, dy, not_false_eq_true]
    exact R_out (bad hm)
  have hok : ∀ a b c : Prop, ∀ [Decidable a] [Decidable b] [Decidable c], True := fun _ _ _ _ _ _ => trivial
  have go : mkC kd md = 0 \/ mkC kd md = 2 := by unfold mkC; split <;> simp
  by_cases hmd : 0 <= md /\ md <= 4095
  rotate_left
  · have hm : mkC kd md = 2 := if_neg (by omega)
    have h3 : kd = 1 \/ kd = 2 \/ kd = 3 := by omega
    by_cases hm0 : md < 0
    · rcases h3 with rfl | rfl | rfl
      all_goals
        simp (maxSteps := 999999) (disch := omega) only [↓sy1, sZ, readOK, Nat.reduceEqDiff, ↓reduceIte, oneOf, Nat.reduceAdd, Nat.reduceMul, reduceCtorEq, F29, hm0, dy, not_true_eq_false, Int.reduceEq, not_false_eq_true]
        exact R_out (bad hm)
    · rcases h3 with rfl | rfl | rfl
      all_goals
        simp (maxSteps := 999999) (disch := omega) only [↓sy1, sZ, readOK, Nat.reduceEqDiff, ↓reduceIte, oneOf, Nat.reduceAdd, Nat.reduceMul, reduceCtorEq, F29, hm0, show 4095 < md from by omega, dy, not_true_eq_false, Int.reduceEq, not_false_eq_true]
        exact R_out (bad hm)
  have hm : mkC kd md = 0 := if_pos (by omega)
  have h3 : kd = 1 \/ kd = 2 \/ kd = 3 := by omega
  rw [hm]
  have hc0' := hc0
  rcases h3 with rfl | rfl | rfl
  all_goals
    simp (maxSteps := 999999) (disch := omega) only [↓sy1, sZ, readOK, Nat.reduceEqDiff, ↓reduceIte, oneOf, Nat.reduceAdd, Nat.reduceMul, reduceCtorEq, F29, show ¬ md < 0 from by omega, show ¬ 4095 < md from by omega, dy, not_true_eq_false, Int.reduceEq, not_false_eq_true, hc0]
    refine call0 (rinode_spec hM) ?_
    rintro _ w1 ⟨rfl, G1, hM1, hx1⟩
    have h1 := hput G1 w1 _ _ hM1 (by rw [takeL_length]; exact hIk) hx1
    by_cases hlt : firstN I < I.length
    · have htc : takeC I = 0 := if_pos hlt
      have htn : takeN I = firstN I := if_pos hlt
      rw [htc, htn]
      simp (maxSteps := 999999) (disch := omega) only [↓sy1, sZ, readOK, Nat.reduceEqDiff, ↓reduceIte, oneOf, Nat.reduceAdd, Nat.reduceMul, reduceCtorEq, dz, fill_gen, fill_new6]
      refine call0 (rsetf_spec h1 (i := firstN I) (by omega) (RF.new _ _ _ _) hk) ?_
      rintro _ w2 ⟨G2, h2, hx2, _⟩
      simp (maxSteps := 999999) (disch := omega) only [↓sy1, sZ, readOK, Nat.reduceEqDiff, ↓reduceIte, oneOf, Nat.reduceAdd, Nat.reduceMul, reduceCtorEq]
      exact R_out ⟨G2, h2, (hx1.mono K8.o8).trans (hx2.mono K8.o11)⟩
    · have htc : takeC I = 7 := if_neg hlt
      have htn : takeN I = 0 := if_neg hlt
      rw [htc, htn]
      simp (maxSteps := 999999) (disch := omega) only [↓sy1, sZ, readOK, Nat.reduceEqDiff, ↓reduceIte, oneOf, Nat.reduceAdd, Nat.reduceMul, reduceCtorEq, Int.reduceEq, decide_true, not_false_eq_true, decide_false]
      refine call0 (rfull_spec h1) ?_
      rintro _ w2 ⟨rfl, G2, h2, hx2⟩
      simp (maxSteps := 999999) (disch := omega) only [↓sy1, sZ, readOK, Nat.reduceEqDiff, ↓reduceIte, oneOf, Nat.reduceAdd, Nat.reduceMul, reduceCtorEq]
      exact R_out ⟨rfl, G2, h2, (hx1.mono K8.o8).trans (hx2.mono K8.o11)⟩
end
section
variable {G : Gh} {w : World} {r k : Nat}
def RcR (G : Gh) (w : World) (r k : Nat) (i : Int) (v : Value) (w' : World) : Prop := ∃ (code : Int) (G' : Gh), v = .int .i64 code /\ RS G' w' r k /\ Ext K8 G w G' w' /\ (code = 0 -> 1 <= i /\ i < k)
theorem rrsz_spec (h : RS G w r k) {i n : Int} : Calls Tryz.prog 35 #[.pointer (some ⟨r, 0, none⟩), .int .i64 i, .int .i64 n] w (Ret fun v w' => RcR G w r k i v w') := by
  have hk := h.k512
  apply enter35
  apply R_in
  simp (maxSteps := 999999) (disch := omega) only [↓sy1, sZ, readOK, Nat.reduceEqDiff, ↓reduceIte, oneOf, Nat.reduceAdd, Nat.reduceMul, reduceCtorEq, F35]
  refine call0 (rlook_spec h (i := i)) ?_
  rintro _ w1 ⟨hw1, code, rfl, hc⟩
  subst w1
  by_cases hz : code = 0
  rotate_left
  · simp (maxSteps := 999999) (disch := omega) only [↓sy1, sZ, readOK, Nat.reduceEqDiff, ↓reduceIte, oneOf, Nat.reduceAdd, Nat.reduceMul, reduceCtorEq, hz, not_false_eq_true, dy]
    exact R_out ⟨code, G, rfl, h, .refl _ _ _, fun hh => absurd hh hz⟩
  have hik := hc hz
  subst hz
  obtain ⟨j, rfl⟩ : ∃ j : Nat, i = j := ⟨i.toNat, by omega⟩
  by_cases h1 : n < 0
  · simp (maxSteps := 999999) (disch := omega) only [↓sy1, sZ, readOK, Nat.reduceEqDiff, ↓reduceIte, oneOf, Nat.reduceAdd, Nat.reduceMul, reduceCtorEq, h1, dz]
    exact R_out ⟨2, G, rfl, h, .refl _ _ _, by omega⟩
  by_cases h2 : 70656 < n
  · simp (maxSteps := 999999) (disch := omega) only [↓sy1, sZ, readOK, Nat.reduceEqDiff, ↓reduceIte, oneOf, Nat.reduceAdd, Nat.reduceMul, reduceCtorEq, h1, h2, dz]
    exact R_out ⟨6, G, rfl, h, .refl _ _ _, by omega⟩
  obtain ⟨sz, rfl⟩ : ∃ m : Nat, n = m := ⟨n.toNat, by omega⟩
  simp (maxSteps := 999999) (disch := omega) only [↓sy1, sZ, readOK, Nat.reduceEqDiff, ↓reduceIte, oneOf, Nat.reduceAdd, Nat.reduceMul, reduceCtorEq, h1, h2, dz]
  refine call0 (rresize_spec h (i := j) (sz := sz) (by omega) hk (by omega)) ?_
  rintro _ w1 ⟨t, G1, rfl, hr1, hx1, _⟩
  cases t with
  | true =>
    simp (maxSteps := 999999) (disch := omega) only [↓sy1, sZ, readOK, Nat.reduceEqDiff, ↓reduceIte, oneOf, Nat.reduceAdd, Nat.reduceMul, reduceCtorEq]
    exact R_out ⟨0, G1, rfl, hr1, hx1, fun _ => hik⟩
  | false =>
    simp (maxSteps := 999999) (disch := omega) only [↓sy1, sZ, readOK, Nat.reduceEqDiff, ↓reduceIte, oneOf, Nat.reduceAdd, Nat.reduceMul, reduceCtorEq]
    refine call0 (rfull_spec hr1) ?_
    rintro _ w2 ⟨rfl, G2, hr2, hx2⟩
    simp (maxSteps := 999999) (disch := omega) only [↓sy1, sZ, readOK, Nat.reduceEqDiff, ↓reduceIte, oneOf, Nat.reduceAdd, Nat.reduceMul, reduceCtorEq]
    exact R_out ⟨7, G2, rfl, hr2, hx1.trans (hx2.mono K8.o11), by omega⟩
theorem RS.fileIs (h : RS G w r k) {i : Nat} (hi : i < k) : ∃ cs, FileIs w r i cs /\ RF G w cs := by
  obtain ⟨M, lv, P, I, hc, hM, hI, hF, hb⟩ := h.parts
  obtain ⟨b, q, cs, h1, h2, _, h4⟩ := hF.file hi
  exact ⟨cs, ⟨lv, b, q, (hc w (Keep.refl _ _)).2, h1, h2⟩, h4⟩
theorem RS.fileRF (h : RS G w r k) {i : Nat} (hi : i < k) {cs : List Value} (hf : FileIs w r i cs) : RF G w cs := by
  obtain ⟨cs', ⟨lv, b, q, h1, h2, h3⟩, h4⟩ := h.fileIs hi
  obtain ⟨lv', b', q', h1', h2', h3'⟩ := hf
  rw [h1] at h1'
  cases h1'
  rw [h2] at h2'
  cases h2'
  rw [h3] at h3'
  cases h3'
  exact h4
set_option maxHeartbeats 2000000 in
theorem rsetm_spec (h : RS G w r k) {i md ln : Int} : Calls Tryz.prog 37 #[.pointer (some ⟨r, 0, none⟩), .int .i64 i, .int .i64 md, .int .i64 ln] w (Ret fun v w' => RcR G w r k i v w') := by
  have hk := h.k512
  apply enter37
  apply R_in
  simp (maxSteps := 999999) (disch := omega) only [↓sy1, sZ, readOK, Nat.reduceEqDiff, ↓reduceIte, oneOf, Nat.reduceAdd, Nat.reduceMul, reduceCtorEq, F37]
  refine call0 (rlook_spec h (i := i)) ?_
  rintro _ w1 ⟨hw1, code, rfl, hc⟩
  subst w1
  by_cases hz : code = 0
  rotate_left
  · simp (maxSteps := 999999) (disch := omega) only [↓sy1, sZ, readOK, Nat.reduceEqDiff, ↓reduceIte, oneOf, Nat.reduceAdd, Nat.reduceMul, reduceCtorEq, hz, not_false_eq_true, dy]
    exact R_out ⟨code, G, rfl, h, .refl _ _ _, fun hh => absurd hh hz⟩
  have hik := hc hz
  subst hz
  obtain ⟨j, rfl⟩ : ∃ j : Nat, i = j := ⟨i.toNat, by omega⟩
  have bad : RcR G w r k j (.int .i64 2) w := ⟨2, G, rfl, h, .refl _ _ _, by omega⟩
  by_cases h1 : md < 0
  · simp (maxSteps := 999999) (disch := omega) only [↓sy1, sZ, readOK, Nat.reduceEqDiff, ↓reduceIte, oneOf, Nat.reduceAdd, Nat.reduceMul, reduceCtorEq, h1, dz]
    exact R_out bad
  by_cases h2 : 4095 < md
  · simp (maxSteps := 999999) (disch := omega) only [↓sy1, sZ, readOK, Nat.reduceEqDiff, ↓reduceIte, oneOf, Nat.reduceAdd, Nat.reduceMul, reduceCtorEq, h1, h2, dz]
    exact R_out bad
  by_cases h3 : ln < 0
  · simp (maxSteps := 999999) (disch := omega) only [↓sy1, sZ, readOK, Nat.reduceEqDiff, ↓reduceIte, oneOf, Nat.reduceAdd, Nat.reduceMul, reduceCtorEq, h1, h2, h3, dz]
    exact R_out bad
  by_cases h4 : 65535 < ln
  · simp (maxSteps := 999999) (disch := omega) only [↓sy1, sZ, readOK, Nat.reduceEqDiff, ↓reduceIte, oneOf, Nat.reduceAdd, Nat.reduceMul, reduceCtorEq, h1, h2, h3, h4, dz]
    exact R_out bad
  obtain ⟨cs, ⟨lv, b, q, hc1, hia, hld⟩, hRF⟩ := h.fileIs (i := j) (by omega)
  obtain ⟨w1, G1, kd, md0, ln0, ind, bv, dv, bb, dd, st1, hfb1, hbz, hdz, hbl, hdl, rfl, hx1⟩ := fileB_new G w hRF
  obtain ⟨w2, st2, hb2, hk2⟩ := cell_store (i := 1) hfb1.at_ (by simp) (u := .int .i64 md) rfl
  obtain ⟨w3, st3, hb3, hk3⟩ := cell_store (i := 2) hb2 (by simp) (u := .int .i64 ln) rfl
  have hx3 : Ext (fun c => c = 12) G1 w1 G1 w3 := .on0 (hk2.trans hk3) hfb1.own hfb1.fix
  have hl3 : loadN w3 ⟨w.heap.size, 0, none⟩ 0 6 = some [.int .i64 kd, .int .i64 md, .int .i64 ln, bv, dv, .int .i64 ind] := by
    rw [loadN_cells (o := 0) hb3 6 0 (by simp)]; rfl
  simp (maxSteps := 999999) (disch := omega) only [↓sy1, sZ, readOK, Nat.reduceEqDiff, ↓reduceIte, oneOf, Nat.reduceAdd, Nat.reduceMul, reduceCtorEq, h1, h2, h3, h4, dz, hc1, hia, hld, st1, st2, st3, hl3]
  refine call0 (rsetf_spec ((h.ext hx1 id id id).ext hx3 (by omega) (by omega) (by omega)) (i := j) (by omega) ⟨kd, md, ln, ind, bv, dv, bb, dd, rfl, hbz.ext hx3 (by omega), hdz.ext hx3 (by omega), hbl, hdl⟩ hk) ?_
  rintro _ w4 ⟨G4, h4', hx4, _⟩
  simp (maxSteps := 999999) (disch := omega) only [↓sy1, sZ, readOK, Nat.reduceEqDiff, ↓reduceIte, oneOf, Nat.reduceAdd, Nat.reduceMul, reduceCtorEq]
  exact R_out ⟨0, G4, rfl, h4', ((hx1.mono fE).trans (hx3.mono K8.o12)).trans (hx4.mono K8.o11), fun _ => hik⟩
theorem rdropf_spec (h : RS G w r k) {i : Int} : Calls Tryz.prog 38 #[.pointer (some ⟨r, 0, none⟩), .int .i64 i] w (Ret fun v w' => RcR G w r k i v w') := by
  have hk := h.k512
  apply enter38
  apply R_in
  simp (maxSteps := 999999) (disch := omega) only [↓sy1, sZ, readOK, Nat.reduceEqDiff, ↓reduceIte, oneOf, Nat.reduceAdd, Nat.reduceMul, reduceCtorEq, F38]
  refine call0 (rrsz_spec h (i := i) (n := 0)) ?_
  rintro _ w1 ⟨code, G1, rfl, h1, hx1, hc⟩
  by_cases hz : code = 0
  rotate_left
  · simp (maxSteps := 999999) (disch := omega) only [↓sy1, sZ, readOK, Nat.reduceEqDiff, ↓reduceIte, oneOf, Nat.reduceAdd, Nat.reduceMul, reduceCtorEq, hz, not_false_eq_true, dy]
    exact R_out ⟨code, G1, rfl, h1, hx1, hc⟩
  have hik := hc hz
  subst hz
  obtain ⟨j, rfl⟩ : ∃ j : Nat, i = j := ⟨i.toNat, by omega⟩
  have hfz : Value.agg #[.int .i64 0, .int .i64 0, .int .i64 0, .slice none 0 0, .slice none 0 0, .int .i64 0] = .agg zfile.toArray := rfl
  simp (maxSteps := 999999) (disch := omega) only [↓sy1, sZ, readOK, Nat.reduceEqDiff, ↓reduceIte, oneOf, Nat.reduceAdd, Nat.reduceMul, reduceCtorEq, dz, hfz]
  refine call0 (rsetf_spec h1 (i := j) (by omega) (RF.zero _ _) hk) ?_
  rintro _ w2 ⟨G2, h2, hx2, _⟩
  obtain ⟨M, lv, P, I, hc2, hM, hI, hF, hb⟩ := h2.parts
  simp (maxSteps := 999999) (disch := omega) only [↓sy1, sZ, readOK, Nat.reduceEqDiff, ↓reduceIte, oneOf, Nat.reduceAdd, Nat.reduceMul, reduceCtorEq, (hc2 w2 (Keep.refl _ _)).1]
  refine call0 (rgivei_spec hM (n := j)) ?_
  rintro _ w3 ⟨rfl, G3, hM3, hx3⟩
  simp (maxSteps := 999999) (disch := omega) only [↓sy1, sZ, readOK, Nat.reduceEqDiff, ↓reduceIte, oneOf, Nat.reduceAdd, Nat.reduceMul, reduceCtorEq]
  exact R_out ⟨0, G3, rfl, hb G3 w3 _ _ hM3 (by rw [giveL_length]; exact hI) hx3, (hx1.trans (hx2.mono K8.o11)).trans (hx3.mono K8.o8), fun _ => hik⟩
set_option maxHeartbeats 2000000 in
theorem rreadf_spec (h : RS G w r k) {i pos n : Int} (hpos : -9223372036854775808 <= pos /\ pos <= 9223372036854775807) :
    Calls Tryz.prog 32 #[.pointer (some ⟨r, 0, none⟩), .int .i64 i, .int .i64 pos, .int .i64 n] w (Ret fun v w' => ∃ (u : Value) (code : Int) (l : List UInt8), v = .tuple #[u, .int .i64 code] /\ w'.ownsRow w.heap.size 5 1 u l.length (bs l) /\ l.length <= 70656 /\ Grow w w') := by
  apply enter32
  apply R_in
  simp (maxSteps := 999999) (disch := omega) only [↓sy1, sZ, readOK, Nat.reduceEqDiff, ↓reduceIte, oneOf, Nat.reduceAdd, Nat.reduceMul, reduceCtorEq, F32]
  refine call0 (rlook_spec h (i := i)) ?_
  rintro _ w1 ⟨hw1, code, rfl, hc⟩
  subst w1
  have fail : ∀ code : Int, ∃ (u : Value) (code' : Int) (l : List UInt8), Value.tuple #[.slice none 0 0, .int .i64 code] = .tuple #[u, .int .i64 code'] /\ w.ownsRow w.heap.size 5 1 u l.length (bs l) /\ l.length <= 70656 /\ Grow w w := fun code => ⟨_, code, [], rfl, World.ownsRow_nil _ _ _ _, by simp, Keep.refl _ _⟩
  by_cases hz : code = 0
  rotate_left
  · simp (maxSteps := 999999) (disch := omega) only [↓sy1, sZ, readOK, Nat.reduceEqDiff, ↓reduceIte, oneOf, Nat.reduceAdd, Nat.reduceMul, reduceCtorEq, hz, not_false_eq_true, dy]
    exact R_out (fail code)
  have hik := hc hz
  subst hz
  obtain ⟨j, rfl⟩ : ∃ j : Nat, i = j := ⟨i.toNat, by omega⟩
  by_cases h1 : pos < 0
  · simp (maxSteps := 999999) (disch := omega) only [↓sy1, sZ, readOK, Nat.reduceEqDiff, ↓reduceIte, oneOf, Nat.reduceAdd, Nat.reduceMul, reduceCtorEq, h1, dz]
    exact R_out (fail 2)
  by_cases h2 : n < 0
  · simp (maxSteps := 999999) (disch := omega) only [↓sy1, sZ, readOK, Nat.reduceEqDiff, ↓reduceIte, oneOf, Nat.reduceAdd, Nat.reduceMul, reduceCtorEq, h1, h2, dz]
    exact R_out (fail 2)
  clear fail
  obtain ⟨M, lv, P, I, hcc, hM, hI, hF, hb⟩ := h.parts
  obtain ⟨b, q, cs, hia, _, hcs, hRF⟩ := hF.file (i := j) (by omega)
  obtain ⟨kd, md, ln, ind, bv, dv, bb, dd, rfl, hbz, _, hbl, _⟩ := hRF
  have hc3 : w.cell? ⟨b, q + 3, none⟩ = some bv := hcs 3 (by omega)
  have hc1 := (hcc w (Keep.refl _ _)).2
  obtain ⟨p, rfl⟩ : ∃ p : Nat, pos = p := ⟨pos.toNat, by omega⟩
  have hlb : ∀ w', lenF w' 0 bv = some (.int .i64 bb.length) := fun w' => hbz.1.lenB w'
  simp (maxSteps := 999999) (disch := omega) only [↓sy1, sZ, readOK, Nat.reduceEqDiff, ↓reduceIte, oneOf, Nat.reduceAdd, Nat.reduceMul, reduceCtorEq, h1, h2, dz, hc1, hia, hc3]
  refine loop_rule (fun e w' => ∃ (m : Nat) (u : Value) (l : List UInt8), e 3 = .int .i64 n /\ e 12 = bv /\ e 13 = .int .i64 m /\ e 11 = u /\ w'.ownsRow w.heap.size 5 1 u l.length (bs l) /\ l.length <= m /\ (p = m \/ m <= bb.length) /\ (l.length = 0 \/ l.length <= bb.length) /\ Grow w w') (fun e _ => bb.length - (intOf (e 13)).toNat)
    ⟨p, .slice none 0 0, [], by simp [upd, updO, ev], by simp [upd, updO, ev], by simp [upd, updO, ev], by simp [upd, updO, ev], World.ownsRow_nil _ _ _ _, by simp, .inl rfl, .inl rfl, Keep.refl _ _⟩ ?_
  rintro e w3 ⟨m, u, l, e3, e12, e13, e11, ho, hlm, hpm, hll, hg3⟩
  have hlu : ∀ w', lenF w' 0 u = some (.int .i64 l.length) := own_lenF ho
  by_cases hlt : m < bb.length
  · by_cases hln : (l.length : Int) < n
    · obtain ⟨a3, hia3, hca3, _⟩ := (hbz.1.grow hg3 : HasB w3 bv bb).getB hlt
      simp (maxSteps := 999999) (disch := omega) only [↓sy1, sZ, readOK, Nat.reduceEqDiff, ↓reduceIte, oneOf, Nat.reduceAdd, Nat.reduceMul, reduceCtorEq, F32_L0, e3, e12, e13, e11, hlb, hlu, Int.ofNat_lt, hlt, hln, decide_true, hia3, hca3, fill_one, oneF_int]
      have hga : Grow w3 (w3.alloc (.cells #[.int .u8 (bb[m].toNat : Int)] 5)) := (Keep.refl _ _).alloc _
      have hn1 : HasB (w3.alloc (.cells #[.int .u8 (bb[m].toNat : Int)] 5)) (.slice (some ⟨w3.heap.size, 0, none⟩) 1 1) [bb[m]] := Has.new1
      have ho4 := own_grow ho hga
      have hs3 := hg3.size
      have hs4 := hga.size
      generalize w3.alloc (.cells #[.int .u8 (bb[m].toNat : Int)] 5) = w4 at hga hn1 ho4 hs4 |-
      refine app_own (m := 1) (B := w.heap.size) elemB (by simp only [upd_at, Nat.reduceEqDiff, reduceIte, ev_tmp, ev_const, List.map_cons, List.map_nil]) (by simp only [upd_at, Nat.reduceEqDiff, reduceIte, ev_tmp, ev_const, List.map_cons, List.map_nil]) ho4 hn1 rfl (bs_cell _) (by omega) (by omega) (by omega) ?_
      intro u5 w5 ho5 hgb
      have hk5 := Keep.grown hgb
      have hg5 : Grow w w5 := (hg3.trans hga).then hk5 (fun b hb hh => by have := (World.ownsRow.lt ho4 b hh.symm).1; omega)
      simp (maxSteps := 999999) (disch := omega) only [↓sy1, sZ, readOK, Nat.reduceEqDiff, ↓reduceIte, oneOf, Nat.reduceAdd, Nat.reduceMul, reduceCtorEq, e3, e12, e13, e11]
      have hbb : bs l ++ bs [bb[m]] = bs (l ++ [bb[m]]) := by simp [bs]
      have hb1 : [Value.int .u8 (bb[m].toNat : Int)] = bs [bb[m]] := rfl
      rw [hbb] at ho5
      refine R_out ⟨⟨m + 1, u5, l ++ [bb[m]], rfl, rfl, by simpa using ho5, by simp; omega, by omega, by simp; omega, hg5⟩, ?_⟩
      simp only [intOf]; omega
    · simp (maxSteps := 999999) (disch := omega) only [↓sy1, sZ, readOK, Nat.reduceEqDiff, ↓reduceIte, oneOf, Nat.reduceAdd, Nat.reduceMul, reduceCtorEq, F32_L0, e3, e12, e13, e11, hlb, hlu, Int.ofNat_lt, hlt, hln, dy]
      exact R_out ⟨u, 0, l, rfl, ho, by omega, hg3⟩
  · simp (maxSteps := 999999) (disch := omega) only [↓sy1, sZ, readOK, Nat.reduceEqDiff, ↓reduceIte, oneOf, Nat.reduceAdd, Nat.reduceMul, reduceCtorEq, F32_L0, e3, e12, e13, e11, hlb, hlu, Int.ofNat_lt, hlt, dy]
    exact R_out ⟨u, 0, l, rfl, ho, by omega, hg3⟩
set_option maxHeartbeats 4000000 in
theorem rwritef_spec (h : RS G w r k) {i pos : Int} {bv0 : Value} {d : List UInt8} (hd : RowO K8 G w bv0 d) (hdl : d.length <= 100000) (hpos : -9223372036854775808 <= pos /\ pos <= 9223372036854775807) :
    Calls Tryz.prog 30 #[.pointer (some ⟨r, 0, none⟩), .int .i64 i, .int .i64 pos, bv0] w (Ret fun v w' => RcR G w r k i v w') := by
  have hk := h.k512
  have hlen : ∀ w', lenF w' 0 bv0 = some (.int .i64 d.length) := fun w' => hd.1.lenB w'
  apply enter30
  apply R_in
  simp (maxSteps := 999999) (disch := omega) only [↓sy1, sZ, readOK, Nat.reduceEqDiff, ↓reduceIte, oneOf, Nat.reduceAdd, Nat.reduceMul, reduceCtorEq, F30]
  refine call0 (rlook_spec h (i := i)) ?_
  rintro _ w1 ⟨hw1, code, rfl, hc⟩
  subst w1
  by_cases hz : code = 0
  rotate_left
  · simp (maxSteps := 999999) (disch := omega) only [↓sy1, sZ, readOK, Nat.reduceEqDiff, ↓reduceIte, oneOf, Nat.reduceAdd, Nat.reduceMul, reduceCtorEq, hz, not_false_eq_true, dy]
    exact R_out ⟨code, G, rfl, h, .refl _ _ _, fun hh => absurd hh hz⟩
  have hik := hc hz
  subst hz
  obtain ⟨j, rfl⟩ : ∃ j : Nat, i = j := ⟨i.toNat, by omega⟩
  have bad : ∀ code : Int, RcR G w r k j (.int .i64 code) w := fun code => ⟨code, G, rfl, h, .refl _ _ _, fun _ => hik⟩
  by_cases h1 : pos < 0
  · simp (maxSteps := 999999) (disch := omega) only [↓sy1, sZ, readOK, Nat.reduceEqDiff, ↓reduceIte, oneOf, Nat.reduceAdd, Nat.reduceMul, reduceCtorEq, h1, dz]
    exact R_out (bad 2)
  by_cases h2 : 70656 < pos
  · have h2' : ¬ pos <= 70656 := by omega
    by_cases h0 : (d.length : Int) = 0
    · simp (maxSteps := 999999) (disch := omega) only [↓sy1, sZ, readOK, Nat.reduceEqDiff, ↓reduceIte, oneOf, Nat.reduceAdd, Nat.reduceMul, reduceCtorEq, h1, h2, h2', h0, hlen, dz]
      exact R_out (bad 6)
    · simp (maxSteps := 999999) (disch := omega) only [↓sy1, sZ, readOK, Nat.reduceEqDiff, ↓reduceIte, oneOf, Nat.reduceAdd, Nat.reduceMul, reduceCtorEq, h1, h2, h2', h0, hlen, dz]
      exact R_out (bad 6)
  have h2' : pos <= 70656 := by omega
  by_cases h0 : (d.length : Int) = 0
  · simp (maxSteps := 999999) (disch := omega) only [↓sy1, sZ, readOK, Nat.reduceEqDiff, ↓reduceIte, oneOf, Nat.reduceAdd, Nat.reduceMul, reduceCtorEq, h1, h2, h2', h0, hlen, dz]
    exact R_out (bad 0)
  by_cases h3 : 70656 - pos < d.length
  · simp (maxSteps := 999999) (disch := omega) only [↓sy1, sZ, readOK, Nat.reduceEqDiff, ↓reduceIte, oneOf, Nat.reduceAdd, Nat.reduceMul, reduceCtorEq, h1, h2, h2', h0, h3, hlen, dz]
    exact R_out (bad 6)
  clear bad
  obtain ⟨p, rfl⟩ : ∃ p : Nat, pos = p := ⟨pos.toNat, by omega⟩
  obtain ⟨M, lv, P, I, hcc, hM, hI, hF, hb⟩ := h.parts
  obtain ⟨b, q, cs, hia, _, hcs, hRF⟩ := hF.file (i := j) (by omega)
  obtain ⟨kd, md, ln, ind, bv, dv, bb, dd, rfl, hbz, _, hbl, _⟩ := hRF
  have hc3 : w.cell? ⟨b, q + 3, none⟩ = some bv := hcs 3 (by omega)
  have hc1 := (hcc w (Keep.refl _ _)).2
  have hlb : ∀ w', lenF w' 0 bv = some (.int .i64 bb.length) := fun w' => hbz.1.lenB w'
  have hsz : ∃ sz : Nat, sz <= 70656 /\ p + d.length <= sz /\ ((((bb.length : Nat) : Int) < (p : Int) + (d.length : Int) /\ sz = p + d.length) \/ (¬((bb.length : Nat) : Int) < (p : Int) + (d.length : Int) /\ sz = bb.length)) := by
    by_cases hh : bb.length < p + d.length
    · exact ⟨p + d.length, by omega, by omega, .inl ⟨by omega, rfl⟩⟩
    · exact ⟨bb.length, by omega, by omega, .inr ⟨by omega, rfl⟩⟩
  obtain ⟨sz, hsz1, hsz2, hsz3⟩ := hsz
  have hadd : (p : Int) + (d.length : Int) = ((p + d.length : Nat) : Int) := by omega
  have hres := rresize_spec h (i := j) (sz := sz) (by omega) hk hsz1
  rcases hsz3 with ⟨hlt, hse⟩ | ⟨hlt, hse⟩
  all_goals
    simp (maxSteps := 999999) (disch := omega) only [↓sy1, sZ, readOK, Nat.reduceEqDiff, ↓reduceIte, oneOf, Nat.reduceAdd, Nat.reduceMul, reduceCtorEq, h1, h2, h2', h0, h3, hlen, dz, hc1, hia, hc3, hlb, hlt]
    try rw [hadd]
    rw [<- hse]
    refine call0 hres ?_
    rintro _ w1 ⟨t, G1, rfl, hr1, hx1, ht⟩
    cases t with
    | false =>
      simp (maxSteps := 999999) (disch := omega) only [↓sy1, sZ, readOK, Nat.reduceEqDiff, ↓reduceIte, oneOf, Nat.reduceAdd, Nat.reduceMul, reduceCtorEq]
      refine call0 (rfull_spec hr1) ?_
      rintro _ w2 ⟨rfl, G2, hr2, hx2⟩
      simp (maxSteps := 999999) (disch := omega) only [↓sy1, sZ, readOK, Nat.reduceEqDiff, ↓reduceIte, oneOf, Nat.reduceAdd, Nat.reduceMul, reduceCtorEq]
      exact R_out ⟨7, G2, rfl, hr2, hx1.trans (hx2.mono K8.o11), by omega⟩
    | true =>
      obtain ⟨kd1, md1, ln1, ind1, u1, dv1, l1, hfi, hul, hll⟩ := ht rfl
      have hRF1 := hr1.fileRF (i := j) (by omega) hfi
      obtain ⟨lv1, b1, q1, g1, g2, g3⟩ := hfi
      obtain ⟨w2, G2, kd2, md2, ln2, ind2, u2, dv2, bb2, dd2, st2, hfb2, hbz2, hdz2, hbl2, hdl2, he, hx2⟩ := fileB_new G1 w1 hRF1
      simp only [List.cons.injEq, Value.int.injEq, true_and, and_true] at he
      obtain ⟨rfl, rfl, rfl, rfl, rfl, rfl⟩ := he
      have hr2 := hr1.ext hx2 id id id
      have hbl2' : bb2.length = sz := by
        have e1 := hul.lenB w2
        have e2 := hbz2.1.lenB w2
        rw [e1] at e2
        simp at e2
        omega
      have hd2 : RowO K8 G2 w2 bv0 d := (hd.ext hx1 (fun _ h => h)).ext hx2 (fun _ h => h.elim)
      simp (maxSteps := 999999) (disch := omega) only [↓sy1, sZ, readOK, Nat.reduceEqDiff, ↓reduceIte, oneOf, Nat.reduceAdd, Nat.reduceMul, reduceCtorEq, g1, g2, g3, st2, hfb2.c3]
      refine appB_rule (ρ := 12) (B := w2.heap.size) (ls := []) (ys := bb2) (G := G2) (by simp only [upd_at, Nat.reduceEqDiff, reduceIte, ev_tmp, ev_const, List.map_cons, List.map_nil]) (by simp only [upd_at, Nat.reduceEqDiff, reduceIte, ev_tmp, ev_const, List.map_cons, List.map_nil]; exact hbz2.1) (World.ownsRow_nil _ _ _ _) (fun b hb => by cases hb) (by omega) (Nat.le_refl _) ?_
      intro v3 w3 ho3 hor3 hx3 hk3
      rw [List.nil_append, Nat.zero_add] at ho3
      have hqlt : w1.heap.size < w2.heap.size := (Array.getElem?_eq_some_iff.1 hfb2.at_).1
      have hfb3 := hfb2.keep hx3 hk3 (fun hh => by cases hh) (G' := (G2.upto w2.heap.size (fun _ => 12) (fun _ => 0))) (by simp [Gh.upto, hqlt])
      have hr3 := hr2.ext hx3 (by omega) (by omega) (by omega)
      have hd3 := hd2.ext hx3 K8.o12
      have hdz3 := hdz2.ext hx3 (by omega)
      generalize (G2.upto w2.heap.size (fun _ => 12) (fun _ => 0)) = G3 at hor3 hx3 hfb3 hr3 hd3 hdz3
      have hxx3 : Ext K8 G w G3 w3 := (hx1.trans (hx2.mono fE)).trans (hx3.mono K8.o12)
      clear hx3 hk3 hfb2 hr2 hd2 hbz2 hdz2 hx2 hr1 hRF1 hul g1 g2 g3 st2
      simp (maxSteps := 999999) (disch := omega) only [↓sy1, sZ, readOK, Nat.reduceEqDiff, ↓reduceIte, oneOf, Nat.reduceAdd, Nat.reduceMul, reduceCtorEq]
      refine loop_rule (fun e w' => ∃ (m : Nat) (l : List UInt8), m <= d.length /\ e 0 = .pointer (some ⟨r, 0, none⟩) /\ e 1 = .int .i64 j /\ e 2 = .int .i64 p /\ e 3 = bv0 /\ e 11 = .pointer (some ⟨w1.heap.size, 0, none⟩) /\ e 12 = v3 /\ e 13 = .int .i64 m /\ w'.ownsRow w2.heap.size 5 1 v3 bb2.length (bs l) /\ l.length = bb2.length /\ Ext (fun c => c = 12) G3 w3 G3 w' /\ Keep (fun b => v3.ownBlock = some b) w3 w') (fun e _ => d.length - (intOf (e 13)).toNat)
        ⟨0, bb2, by omega, by simp [upd, updO, ev], by simp [upd, updO, ev], by simp [upd, updO, ev], by simp [upd, updO, ev], by simp [upd, updO, ev], by simp [upd, updO, ev], by simp [upd, updO, ev], ho3, rfl, .refl _ _ _, Keep.refl _ _⟩ ?_
      rintro e w4 ⟨m, l, hm, e0, e1, e2, e3, e11, e12, e13, ho4, hl4, hx4, hk4⟩
      by_cases hlt4 : m < d.length
      · have hd4 := hd3.ext hx4 K8.o12
        obtain ⟨a5, hia5, hca5, _⟩ := hd4.1.getB hlt4
        have hpm : (p : Int) + (m : Int) = ((p + m : Nat) : Int) := by omega
        obtain ⟨a6, w6, ha6, hst6, ho6, hk6, _⟩ := own_store ho4 (i := p + m) (by omega) (u := .int .u8 (d[m].toNat : Int)) rfl
        have hset : (bs l).set (p + m) (.int .u8 (d[m].toNat : Int)) = bs (l.set (p + m) d[m]) := by simp [bs, List.map_set]
        rw [hset] at ho6
        simp (maxSteps := 999999) (disch := omega) only [↓sy1, sZ, readOK, Nat.reduceEqDiff, ↓reduceIte, oneOf, Nat.reduceAdd, Nat.reduceMul, reduceCtorEq, F30_L0, e0, e1, e2, e3, e11, e12, e13, hlen, Int.ofNat_lt, hlt4, decide_true, hia5, hca5, hpm, ha6, hst6]
        refine R_out ⟨⟨m + 1, l.set (p + m) d[m], by omega, rfl, ho6, by rw [List.length_set]; exact hl4, hx4.trans (.onS0 hk6 (fun b hb => hor3 b hb)), hk4.trans hk6⟩, by simp only [intOf]; omega⟩
      have hfb4 : FileB G3 w4 w1.heap.size kd1 md1 ln1 u1 dv1 ind1 := ⟨hk4.heap hfb3.at_ (own_ne_old ho3 hqlt), hfb3.own, hfb3.fix⟩
      have hr4 := hr3.ext hx4 (by omega) (by omega) (by omega)
      have hdz4 := hdz3.ext hx4 (by omega)
      obtain ⟨w5, st5, hb5, hk5⟩ := cell_store (i := 3) hfb4.at_ (by simp) (u := v3) (Has.own ho4).isCell
      have hx5 : Ext (fun c => c = 12) G3 w4 G3 w5 := .on0 hk5 hfb4.own hfb4.fix
      have hl5 : loadN w5 ⟨w1.heap.size, 0, none⟩ 0 6 = some [.int .i64 kd1, .int .i64 md1, .int .i64 ln1, v3, dv1, .int .i64 ind1] := by
        rw [loadN_cells (o := 0) hb5 6 0 (by simp)]; rfl
      have ho5 : w5.ownsRow w2.heap.size 5 1 v3 bb2.length (bs l) := own_keep ho4 hk5 (fun b hb hh => by subst hh; exact own_ne_old ho4 hqlt hb)
      have hr5 := (hr4.ext hx5 (by omega) (by omega) (by omega)).wash (n := w2.heap.size) (o := 12) (by omega) (by omega)
      have hdz5 := (hdz4.ext hx5 (by omega)).wash (n := w2.heap.size) (o := 12)
      have hxx5 : Ext K8 G w (G3.wash w2.heap.size 12) w5 := (hxx3.trans ((hx4.trans hx5).mono K8.o12)).wash (by have := hx1.size; omega)
      simp (maxSteps := 999999) (disch := omega) only [↓sy1, sZ, readOK, Nat.reduceEqDiff, ↓reduceIte, oneOf, Nat.reduceAdd, Nat.reduceMul, reduceCtorEq, F30_L0, e0, e1, e2, e3, e11, e12, e13, hlen, Int.ofNat_lt, hlt4, dy, st5, hl5]
      refine call0 (rsetf_spec hr5 (i := j) (by omega) ⟨kd1, md1, ln1, ind1, v3, dv1, l, dd2, rfl, ⟨Has.own ho5, fun b hb _ => ⟨(World.ownsRow.lt ho5 b hb).2, OwnR.zero hor3 ho5 (Nat.le_refl _) b hb⟩⟩, hdz5, by omega, hdl2⟩ hk) ?_
      rintro _ w7 ⟨G7, hr7, hx7, _⟩
      simp (maxSteps := 999999) (disch := omega) only [↓sy1, sZ, readOK, Nat.reduceEqDiff, ↓reduceIte, oneOf, Nat.reduceAdd, Nat.reduceMul, reduceCtorEq]
      exact R_out ⟨0, G7, rfl, hr7, hxx5.trans (hx7.mono K8.o11), fun _ => hik⟩
end
theorem enterRGet {Φ : Value -> World -> Prop} {Ψ : List PanicEntry -> World -> Prop} {w : World} (v0 v1 : Value) (h : symS 58 Tryz.prog F27 ⟨fun e w => RC 15 (e 4) (fun v w => Φ (.tuple #[v, e 5]) w) w, fun _ _ _ => False, fun e w => RC 15 (e 4) (fun v w => Φ (.tuple #[v, e 5]) w) w, Ψ⟩ (upd (upd env0 0 v0) 1 v1) w) : Calls Tryz.prog 27 #[v0, v1] w (Out Φ Ψ) := calls_symX (args := [v0, v1]) 58 4 5 15 Tryz.func27 (by kernel_rfl) (by kernel_rfl) (by kernel_rfl) Tryz.underlying35 (by kernel_rfl) (by kernel_rfl) (by kernel_rfl) (by simp) F27_eq h
def Cells15 (cs : List Value) (sz : Nat) : Prop := cs.length = 15 /\ (∀ u ∈ cs, isCell u = true) /\ cs[3]? = some (.int .i64 sz)
theorem Cells15.set {cs : List Value} {sz i : Nat} {v : Value} (h : Cells15 cs sz) (hi : i ≠ 3) (hv : isCell v = true) : Cells15 (cs.set i v) sz := by
  refine ⟨by rw [List.length_set]; exact h.1, fun u hu => ?_, by rw [List.getElem?_set_ne (by omega)]; exact h.2.2⟩
  rcases List.mem_or_eq_of_mem_set hu with hu | rfl
  · exact h.2.1 u hu
  · exact hv
theorem zero15 : (Value.agg (Array.replicate 15 (.int .i64 0))) = .agg ((List.replicate 15 (Value.int .i64 0)).toArray) := by rw [List.toArray_replicate]
theorem zero15_ok : Cells15 (List.replicate 15 (Value.int .i64 0)) 0 := ⟨by simp, fun u hu => by rw [(List.mem_replicate.1 hu).2]; rfl, rfl⟩
theorem fill_get (kd md ln : Int) (n : Nat) : fillF (Array.replicate 15 (.int .i64 0)) [(0, 1, .int .i64 kd), (1, 1, .int .i64 md), (2, 1, .int .i64 ln), (3, 1, .int .i64 n)] = some #[.int .i64 kd, .int .i64 md, .int .i64 ln, .int .i64 n, .int .i64 0, .int .i64 0, .int .i64 0, .int .i64 0, .int .i64 0, .int .i64 0, .int .i64 0, .int .i64 0, .int .i64 0, .int .i64 0, .int .i64 0] := rfl
def Blk15 (w : World) (q : Nat) (cs : List Value) : Prop := w.heap[q]? = some (.cells cs.toArray 35 (0, 0))
theorem Blk15.stn {w : World} {q : Nat} {cs ds : List Value} {a b : Nat} (h : Blk15 w q cs) (hc : Cells15 cs a) (hd : Cells15 ds b) : ∃ w', stnF w 15 (.pointer (some ⟨q, 0, none⟩)) (.agg ds.toArray) = some (undef, w') /\ Blk15 w' q ds /\ Keep (fun b => b = q) w w' := by
  obtain ⟨w', hs, hb, hk⟩ := storeN_cells ds w _ 0 h (by simp [hc.1, hd.1]) hd.2.1
  refine ⟨w', ?_, ?_, hk⟩
  · simp only [stnF, Value.cells, List.size_toArray, hd.1, if_true, hs, Option.map_some]
  · unfold Blk15
    rw [hb]
    simp only [List.take_zero, List.nil_append, Nat.zero_add]
    rw [List.drop_eq_nil_of_le (by simp [hc.1, hd.1]), List.append_nil]
theorem Blk15.load {w : World} {q a : Nat} {cs : List Value} (h : Blk15 w q cs) (hc : Cells15 cs a) : loadN w ⟨q, 0, none⟩ 0 15 = some cs := by
  rw [loadN_cells (o := 0) h 15 0 (by simp [hc.1])]
  simp only [Nat.add_zero, List.drop_zero]
  rw [List.take_of_length_le (by rw [hc.1]; exact Nat.le_refl _)]
theorem Blk15.new (w : World) : Blk15 (w.alloc (.cells (Value.agg (Array.replicate 15 (.int .i64 0))).cells 35)) w.heap.size (List.replicate 15 (.int .i64 0)) := by
  unfold Blk15
  rw [List.toArray_replicate]
  exact heap_alloc_new w _
theorem Blk15.st {w : World} {q a i : Nat} {cs : List Value} {v : Value} (h : Blk15 w q cs) (hc : Cells15 cs a) (hi : i < 15) (h3 : i ≠ 3) (hv : isCell v = true) : ∃ w', stF w (.pointer (some ⟨q, i, none⟩)) v = some (undef, w') /\ Blk15 w' q (cs.set i v) /\ Cells15 (cs.set i v) a /\ Keep (fun b => b = q) w w' := by
  obtain ⟨w', hs, hb, hk⟩ := cell_store (i := i) h (by simp [hc.1]; exact hi) hv
  refine ⟨w', hs, ?_, hc.set h3 hv, hk⟩
  unfold Blk15
  rw [hb]
  simp
section
variable {G : Gh} {w : World} {r k : Nat}
set_option maxHeartbeats 2000000 in
theorem rgetf_spec (h : RS G w r k) {i : Int} : Calls Tryz.prog 27 #[.pointer (some ⟨r, 0, none⟩), .int .i64 i] w (Ret fun v w' => ∃ (cs : List Value) (sz : Nat) (code : Int), v = .tuple #[.agg cs.toArray, .int .i64 code] /\ Cells15 cs sz /\ sz <= 70656 /\ Grow w w') := by
  apply enterRGet
  apply R_in
  have hg0 : Grow w (w.alloc (.cells (Value.agg (Array.replicate 15 (.int .i64 0))).cells 35)) := (Keep.refl _ _).alloc _
  have hb0 := Blk15.new w
  simp (maxSteps := 999999) (disch := omega) only [↓sy1, sZ, readOK, Nat.reduceEqDiff, ↓reduceIte, oneOf, Nat.reduceAdd, Nat.reduceMul, reduceCtorEq, F27]
  generalize w.alloc (.cells (Value.agg (Array.replicate 15 (.int .i64 0))).cells 35) = w0 at hg0 hb0 |-
  generalize hq : w.heap.size = q at hb0 |-
  have h0 := h.ext (K := fun _ => False) (.grow hg0) id id id
  refine call0 (rlook_spec h0 (i := i)) ?_
  rintro _ w1 ⟨hw1, code, rfl, hc⟩
  subst w1
  by_cases hz : code = 0
  rotate_left
  · obtain ⟨w2, hst, hb2, hk2⟩ := hb0.stn zero15_ok zero15_ok
    simp (maxSteps := 999999) (disch := omega) only [↓sy1, sZ, readOK, Nat.reduceEqDiff, ↓reduceIte, oneOf, Nat.reduceAdd, Nat.reduceMul, reduceCtorEq, hz, not_false_eq_true, dy, zero15, hst]
    exact R_out ⟨_, _, rfl, hb2.load zero15_ok, _, 0, code, rfl, zero15_ok, by omega, hg0.then hk2 (fun b hb hh => by omega)⟩
  have hik := hc hz
  subst hz
  obtain ⟨j, rfl⟩ : ∃ j : Nat, i = j := ⟨i.toNat, by omega⟩
  obtain ⟨cs, ⟨lv, b, o, hc1, hia, hld⟩, hRF⟩ := h0.fileIs (i := j) (by omega)
  obtain ⟨w1, G1, kd, md, ln, ind, bv, dv, bb, dd, st1, hfb1, hbz, hdz, hbl, hdl, rfl, hx1⟩ := fileB_new G w0 hRF
  have hg1 : Grow w0 w1 := ⟨hx1.os, hx1.tape, hx1.output, hx1.size, fun b hb _ => hx1.blk b hb id⟩
  have hb1 : Blk15 w1 q _ := hg1.gheap hb0
  have hlb : ∀ w', lenF w' 0 bv = some (.int .i64 bb.length) := fun w' => hbz.1.lenB w'
  have hld' : ∀ w', lenF w' 0 dv = some (.int .i64 dd.length) := fun w' => hdz.1.lenI w'
  have hf0 : w1.cell? ⟨w0.heap.size, 0, none⟩ = some (.int .i64 kd) := by rw [cell_block hfb1.at_]; rfl
  have hf1 : w1.cell? ⟨w0.heap.size, 1, none⟩ = some (.int .i64 md) := by rw [cell_block hfb1.at_]; rfl
  have hf2 : w1.cell? ⟨w0.heap.size, 2, none⟩ = some (.int .i64 ln) := by rw [cell_block hfb1.at_]; rfl
  have hg2 : Grow w1 (w1.alloc (.cells (Value.agg (Array.replicate 15 (.int .i64 0))).cells 35)) := (Keep.refl _ _).alloc _
  have hb2 := Blk15.new w1
  simp (maxSteps := 999999) (disch := omega) only [↓sy1, sZ, readOK, Nat.reduceEqDiff, ↓reduceIte, oneOf, Nat.reduceAdd, Nat.reduceMul, reduceCtorEq, not_true_eq_false, decide_false, hc1, hia, hld, st1, hf0, hf1, hf2, hfb1.c3, hlb, fill_gen, fill_get]
  generalize w1.alloc (.cells (Value.agg (Array.replicate 15 (.int .i64 0))).cells 35) = w2 at hg2 hb2 |-
  generalize hq2 : w1.heap.size = q2 at hb2 |-
  have hok3 : Cells15 [.int .i64 kd, .int .i64 md, .int .i64 ln, .int .i64 bb.length, .int .i64 0, .int .i64 0, .int .i64 0, .int .i64 0, .int .i64 0, .int .i64 0, .int .i64 0, .int .i64 0, .int .i64 0, .int .i64 0, .int .i64 0] bb.length := ⟨rfl, by intro u hu; simp at hu; rcases hu with rfl | rfl | rfl | rfl | rfl <;> rfl, rfl⟩
  obtain ⟨w3, hst3, hb3, hk3⟩ := hb2.stn zero15_ok hok3
  have hs0 := hg0.size
  have hs1 := hg1.size
  have hs2 := hg2.size
  have hg13 : Grow w1 w3 := hg2.then hk3 (fun b hb hh => by omega)
  have hfb3 := hg13.gheap hfb1.at_
  have hb13 : Blk15 w3 q _ := hg13.gheap hb1
  have hdz3 : HasI w3 dv dd := hdz.1.grow hg13
  generalize [Value.int .i64 kd, .int .i64 md, .int .i64 ln, .int .i64 bb.length, .int .i64 0, .int .i64 0, .int .i64 0, .int .i64 0, .int .i64 0, .int .i64 0, .int .i64 0, .int .i64 0, .int .i64 0, .int .i64 0, .int .i64 0] = cs3 at hok3 hst3 hb3
  have hql : q < w1.heap.size := by have := (Array.getElem?_eq_some_iff.1 hb1).1; exact this
  have hq0 : w0.heap.size < w1.heap.size := (Array.getElem?_eq_some_iff.1 hfb1.at_).1
  simp (maxSteps := 999999) (disch := omega) only [↓sy1, sZ, readOK, Nat.reduceEqDiff, ↓reduceIte, oneOf, Nat.reduceAdd, Nat.reduceMul, reduceCtorEq, hst3]
  refine loop_rule (fun e w' => ∃ (m : Nat) (cs : List Value), m <= 10 /\ e 4 = .pointer (some ⟨q, 0, none⟩) /\ e 7 = .pointer (some ⟨w0.heap.size, 0, none⟩) /\ e 8 = .pointer (some ⟨q2, 0, none⟩) /\ e 9 = .int .i64 m /\ Blk15 w' q2 cs /\ Cells15 cs bb.length /\ Keep (fun b => b = q2) w3 w') (fun e _ => 10 - (intOf (e 9)).toNat)
    ⟨0, cs3, by omega, by simp [upd, updO, ev], by simp [upd, updO, ev], by simp [upd, updO, ev], by simp [upd, updO, ev], hb3, hok3, Keep.refl _ _⟩ ?_
  rintro e w4 ⟨m, cs4, hm, e4, e7, e8, e9, hb4, hok4, hk4⟩
  have hfb4 := hk4.heap hfb3 (show ¬ w0.heap.size = q2 by omega)
  have hc4 : w4.cell? ⟨w0.heap.size, 4, none⟩ = some dv := by rw [cell_block hfb4]; rfl
  have hc5 : w4.cell? ⟨w0.heap.size, 5, none⟩ = some (.int .i64 ind) := by rw [cell_block hfb4]; rfl
  have hb14 : Blk15 w4 q _ := hk4.heap hb13 (show ¬ q = q2 by omega)
  have exit : ∀ cs5, Cells15 cs5 bb.length -> True := fun _ _ => trivial
  have fin : ∃ w5 w6 cs6, iaaF 11 1 (.pointer (some ⟨q2, 4, none⟩)) (.int .i64 10) = some (.pointer (some ⟨q2, 14, none⟩)) /\ stF w4 (.pointer (some ⟨q2, 14, none⟩)) (.int .i64 ind) = some (undef, w5) /\ loadN w5 ⟨q2, 0, none⟩ 0 15 = some cs6 /\ stnF w5 15 (.pointer (some ⟨q, 0, none⟩)) (.agg cs6.toArray) = some (undef, w6) /\ loadN w6 ⟨q, 0, none⟩ 0 15 = some cs6 /\ Cells15 cs6 bb.length /\ Grow w w6 := by
    obtain ⟨w5, hs5, hb5, hok5, hk5⟩ := hb4.st hok4 (i := 14) (v := .int .i64 ind) (by omega) (by omega) rfl
    have hb15 : Blk15 w5 q _ := hk5.heap hb14 (show ¬ q = q2 by omega)
    obtain ⟨w6, hs6, hb6, hk6⟩ := hb15.stn zero15_ok hok5
    refine ⟨w5, w6, _, rfl, hs5, hb5.load hok5, hs6, hb6.load hok5, hok5, ?_⟩
    exact ((((hg0.trans hg1).trans hg13).then (hk4.trans hk5) (fun b hb hh => by omega))).then hk6 (fun b hb hh => by omega)
  obtain ⟨w5, w6, cs6, f1, f2, f3, f4, f5, f6, f7⟩ := fin
  by_cases hlt : m < dd.length
  · by_cases h10 : m < 10
    · obtain ⟨a5, hia5, hca5, _⟩ := (hdz3.keep hk4 (fun b hb hne hh => by have := (hdz.2 b hb hne).1; omega) : HasI w4 dv dd).getI hlt
      obtain ⟨w7, hs7, hb7, hok7, hk7⟩ := hb4.st hok4 (i := 4 + m) (v := .int .i64 dd[m]) (by omega) (by omega) rfl
      have hiaa : iaaF 11 1 (.pointer (some ⟨q2, 4, none⟩)) (.int .i64 m) = some (.pointer (some ⟨q2, 4 + m, none⟩)) := by
        simp only [iaaF]
        rw [if_pos ⟨by omega, by omega⟩]
        simp [add_lit]
      simp (maxSteps := 999999) (disch := omega) only [↓sy1, sZ, readOK, Nat.reduceEqDiff, ↓reduceIte, oneOf, Nat.reduceAdd, Nat.reduceMul, reduceCtorEq, F27_L0, e4, e7, e8, e9, hc4, hld', Int.ofNat_lt, hlt, show (m : Int) < 10 from by omega, decide_true, hia5, hca5, hiaa, hs7]
      refine R_out ⟨⟨m + 1, cs4.set (4 + m) (.int .i64 dd[m]), by omega, rfl, hb7, hok7, hk4.trans hk7⟩, by simp only [intOf]; omega⟩
    · simp (maxSteps := 999999) (disch := omega) only [↓sy1, sZ, readOK, Nat.reduceEqDiff, ↓reduceIte, oneOf, Nat.reduceAdd, Nat.reduceMul, reduceCtorEq, F27_L0, e4, e7, e8, e9, hc4, hc5, hld', Int.ofNat_lt, hlt, show ¬((m : Int) < 10) from by omega, dy, f1, f2, f3, f4]
      exact R_out ⟨_, _, rfl, f5, cs6, _, 0, rfl, f6, hbl, f7⟩
  · simp (maxSteps := 999999) (disch := omega) only [↓sy1, sZ, readOK, Nat.reduceEqDiff, ↓reduceIte, oneOf, Nat.reduceAdd, Nat.reduceMul, reduceCtorEq, F27_L0, e4, e7, e8, e9, hc4, hc5, hld', Int.ofNat_lt, hlt, dy, f1, f2, f3, f4]
    exact R_out ⟨_, _, rfl, f5, cs6, _, 0, rfl, f6, hbl, f7⟩
end
def Deed6.Ok (x : Deed6) : Prop := (-9223372036854775808 <= x.i /\ x.i <= 9223372036854775807) /\ (-9223372036854775808 <= x.at_ /\ x.at_ <= 9223372036854775807) /\ (-9223372036854775808 <= x.n /\ x.n <= 9223372036854775807) /\ (-9223372036854775808 <= x.node /\ x.node <= 9223372036854775807) /\ (-9223372036854775808 <= x.mode /\ x.mode <= 9223372036854775807) /\ (-9223372036854775808 <= x.links /\ x.links <= 9223372036854775807)
structure DeedAt (G : Gh) (w : World) (b : Nat) (x : Deed6) : Prop where
  at_ : w.heap[b]? = some (.cells x.cells.toArray 31 (0, 0))
  own : G.own b = 0
section
variable {K : Nat -> Prop} {G G' : Gh} {w w' : World} {b : Nat} {x : Deed6}
theorem DeedAt.ext (h : DeedAt G w b x) (hx : Ext K G w G' w') (h0 : ¬ K 0) : DeedAt G' w' b x := ⟨hx.heap h.at_ (by rw [h.own]; exact h0), by rw [hx.own b (hx.lt h.at_)]; exact h.own⟩
theorem DeedAt.grow (h : DeedAt G w b x) (hg : Grow w w') : DeedAt G w' b x := ⟨hg.gheap h.at_, h.own⟩
theorem DeedAt.cell (h : DeedAt G w b x) (j : Nat) : w.cell? ⟨b, j, none⟩ = x.cells[j]? := deed_cell h.at_
theorem DeedAt.load (h : DeedAt G w b x) : loadN w ⟨b, 0, none⟩ 0 8 = some x.cells := by
  rw [loadN_cells (o := 0) h.at_ 8 0 (by simp [Deed6.cells])]
  rfl
theorem DeedAt.new (w : World) (x : Deed6) : DeedAt G00 (w.alloc (.cells x.cells.toArray 31)) w.heap.size x := ⟨heap_alloc_new w _, rfl⟩
end
section
variable {G : Gh} {κ μ m p lq came s k : Nat} {w : World} {c : Csh} {P I : List Bool} {F : Nat -> Option Opn} {B : Nat -> List UInt8}
theorem Ino.any (h : Ino G κ μ w s m p lq came c P I F B) : Back G κ μ w s m p lq came I.length c := ⟨c, P, I, F, B, h, .refl c, rfl⟩
theorem TryR.any {free want most : Nat} {X : XT} {Z Zf : Gh -> World -> Prop} {v : Value} (h : TryR G κ μ w s m p lq came k c free want most X Z Zf v) : ∃ code : Int, v = .int .i64 code /\ Back G κ μ w s m p lq came k c := by
  rcases h with ⟨rfl, c', P', I', F', B', h, hn, hI, _, _⟩ | ⟨rfl, h, _, _⟩
  · exact ⟨0, rfl, c', P', I', F', B', h, hn, hI⟩
  · exact ⟨7, rfl, h⟩
def AnyR (G : Gh) (κ μ : Nat) (w : World) (s m p lq came k : Nat) (c : Csh) (v : Value) (w' : World) : Prop := ∃ (code : Int) (G' : Gh), v = .int .i64 code /\ Ext (KW κ μ) G w G' w' /\ Back G' κ μ w' s m p lq came k c
theorem iset_any (h : Ino G κ μ w s m p lq came c P I F B) {i md ln : Int} :
    Calls Tryz.prog 36 #[.pointer (some ⟨s, 0, none⟩), .int .i64 i, .int .i64 md, .int .i64 ln] w (Ret fun v w' => AnyR G κ μ w s m p lq came I.length c v w') := by
  refine Ret.mono (iset_spec h) ?_
  rintro v w' ⟨G', hx, hR⟩
  rcases hR with ⟨_, rfl, h'⟩ | ⟨_, j, o, _, _, hT⟩
  · exact ⟨_, G', rfl, hx, h'.any⟩
  · obtain ⟨code, rfl, hb⟩ := hT.any
    exact ⟨code, G', rfl, hx, hb⟩
theorem iresize_any (h : Ino G κ μ w s m p lq came c P I F B) {i n : Int} :
    Calls Tryz.prog 34 #[.pointer (some ⟨s, 0, none⟩), .int .i64 i, .int .i64 n] w (Ret fun v w' => AnyR G κ μ w s m p lq came I.length c v w') := by
  refine Ret.mono (iresize_spec h) ?_
  rintro v w' ⟨G', hx, hR⟩
  rcases hR with ⟨_, rfl, h'⟩ | ⟨_, j, o, _, _, hT⟩
  · exact ⟨_, G', rfl, hx, h'.any⟩
  · obtain ⟨code, rfl, hb⟩ := hT.any
    exact ⟨code, G', rfl, hx, hb⟩
theorem idrop_any (h : Ino G κ μ w s m p lq came c P I F B) {i : Int} :
    Calls Tryz.prog 12 #[.pointer (some ⟨s, 0, none⟩), .int .i64 i] w (Ret fun v w' => AnyR G κ μ w s m p lq came I.length c v w') := by
  refine Ret.mono (idrop_spec h) ?_
  rintro v w' ⟨G', hx, hR⟩
  rcases hR with ⟨_, rfl, h'⟩ | ⟨_, j, o, _, _, hT⟩
  · exact ⟨_, G', rfl, hx, h'.any⟩
  · obtain ⟨code, rfl, hb⟩ := hT.any
    exact ⟨code, G', rfl, hx, hb⟩
theorem iwrite_any (h : Ino G κ μ w s m p lq came c P I F B) {i pos : Int} {bv : Value} {d : List UInt8} (hd : RowO (KW κ μ) G w bv d) (hdl : d.length <= 1000000000) (hpos : -9223372036854775808 <= pos /\ pos <= 9223372036854775807) :
    Calls Tryz.prog 26 #[.pointer (some ⟨s, 0, none⟩), .int .i64 i, .int .i64 pos, bv] w (Ret fun v w' => AnyR G κ μ w s m p lq came I.length c v w') := by
  refine Ret.mono (iwrite_file_spec h hd hdl hpos) ?_
  rintro v w' ⟨G', hx, hR⟩
  rcases hR with ⟨_, rfl, h'⟩ | ⟨_, _, rfl, h'⟩ | ⟨_, _, j, o, n, _, _, _, hT⟩
  · exact ⟨_, G', rfl, hx, h'.any⟩
  · exact ⟨_, G', rfl, hx, h'.any⟩
  · obtain ⟨code, rfl, hb⟩ := hT.any
    exact ⟨code, G', rfl, hx, hb⟩
theorem imake_any (h : Ino G κ μ w s m p lq came c P I F B) {kd md : Int} :
    Calls Tryz.prog 25 #[.pointer (some ⟨s, 0, none⟩), .int .i64 kd, .int .i64 md] w (Ret fun v w' => ∃ (a e : Int) (G' : Gh), v = .tuple #[.int .i64 a, .int .i64 e] /\ Ext (KW κ μ) G w G' w' /\ Back G' κ μ w' s m p lq came I.length c) := by
  refine Ret.mono (imake_spec h) ?_
  rintro v w' ⟨G', hx, hR⟩
  rcases hR with ⟨_, rfl, h'⟩ | ⟨_, rfl, c2, h2, _, hd2⟩ | ⟨_, rfl, hb, _⟩
  · exact ⟨_, _, G', rfl, hx, h'.any⟩
  · exact ⟨_, _, G', rfl, hx, c2, _, _, _, _, h2, hd2.near, by simp⟩
  · exact ⟨_, _, G', rfl, hx, hb⟩
end
set_option maxHeartbeats 8000000 in
theorem much_spec {G : Gh} {w : World} {r k : Nat} (h : RS G w r k) {x : Deed6} (hx : x.Ok) : Calls Tryz.prog 7 #[.pointer (some ⟨r, 0, none⟩), x.val] w (Ret fun v w' => ∃ t, v = .bool t /\ Grow w w') := by
  obtain ⟨_, hxa, hxn, _, _, _⟩ := hx
  have hcells : x.val.cells = x.cells.toArray := rfl
  have hd0 := DeedAt.new w x
  have hg0 : Grow w (w.alloc (.cells x.cells.toArray 31)) := (Keep.refl _ _).alloc _
  apply enter7
  apply R_in
  generalize hq : w.heap.size = q at hd0
  have hc0 := hd0.cell 1
  simp (maxSteps := 999999) (disch := omega) only [↓sy1, sZ, readOK, Nat.reduceEqDiff, ↓reduceIte, oneOf, Nat.reduceAdd, Nat.reduceMul, reduceCtorEq, F7, hcells, hq]
  generalize w.alloc (.cells x.cells.toArray 31) = w0 at hd0 hg0 hc0 |-
  have h0 := h.ext (K := fun _ => False) (.grow hg0) id id id
  have hcc : ∀ {w'}, Grow w0 w' -> w'.cell? ⟨q, 0, none⟩ = some (.int .i64 x.kind) /\ w'.cell? ⟨q, 1, none⟩ = some (.int .i64 x.i) /\ w'.cell? ⟨q, 2, none⟩ = some (.int .i64 x.at_) /\ w'.cell? ⟨q, 3, none⟩ = some (.int .i64 x.n) /\ loadN w' ⟨q, 0, none⟩ 0 8 = some x.cells := fun hg => by
    have hd := hd0.grow hg
    exact ⟨hd.cell 0, hd.cell 1, hd.cell 2, hd.cell 3, hd.load⟩
  simp (maxSteps := 999999) (disch := omega) only [↓sy1, sZ, readOK, Nat.reduceEqDiff, ↓reduceIte, oneOf, Nat.reduceAdd, Nat.reduceMul, reduceCtorEq, (hcc (Keep.refl _ _)).2.1]
  refine call0 (rgetf_spec h0 (i := x.i)) ?_
  rintro _ w1 ⟨cs, sz, code, rfl, hok, hsz, hg1⟩
  have hg2 : Grow w1 (w1.alloc (.cells (Value.agg (Array.replicate 15 (.int .i64 0))).cells 35)) := (Keep.refl _ _).alloc _
  have hb2 := Blk15.new w1
  simp (maxSteps := 999999) (disch := omega) only [↓sy1, sZ, readOK, Nat.reduceEqDiff, ↓reduceIte, oneOf, Nat.reduceAdd, Nat.reduceMul, reduceCtorEq]
  generalize w1.alloc (.cells (Value.agg (Array.replicate 15 (.int .i64 0))).cells 35) = w2 at hg2 hb2 |-
  obtain ⟨w3, hst, hb3, hk3⟩ := hb2.stn zero15_ok hok
  have hg13 : Grow w1 w3 := hg2.then hk3 (fun b hb hh => by omega)
  have hg03 := hg1.trans hg13
  have hgg : Grow w w3 := hg0.trans hg03
  have hs3 : ∀ {w'}, Grow w3 w' -> w'.cell? ⟨w1.heap.size, 3, none⟩ = some (.int .i64 sz) := fun hg => by
    rw [cell_block (hg.gheap hb3)]
    simpa using hok.2.2
  generalize hq2 : w1.heap.size = q2 at hst hb3 hs3 |-
  by_cases hz : code = 0
  rotate_left
  · simp (maxSteps := 999999) (disch := omega) only [↓sy1, sZ, readOK, Nat.reduceEqDiff, ↓reduceIte, oneOf, Nat.reduceAdd, Nat.reduceMul, reduceCtorEq, hst, hz, not_false_eq_true, dy]
    exact R_out ⟨false, rfl, hgg⟩
  subst hz
  have hle := x.len_le
  have hlen := x.data_length
  by_cases k1 : x.kind = 1
  · simp (maxSteps := 999999) (disch := omega) only [↓sy1, sZ, readOK, Nat.reduceEqDiff, ↓reduceIte, oneOf, Nat.reduceAdd, Nat.reduceMul, reduceCtorEq, hst, not_true_eq_false, decide_false, (hcc hg03).1, (hcc hg03).2.2.2.1, (hcc hg03).2.2.2.2, k1, decide_true, Int.reduceEq]
    refine call0 (d6bytes_spec x) ?_
    rintro bv w4 ⟨hbv, hg4⟩
    have hlb : ∀ w', lenF w' 0 bv = some (.int .i64 x.data.length) := own_lenF hbv
    have hc4 := hcc (hg03.trans hg4)
    have hs4 := hs3 hg4
    have n0 : ∃ n : Nat, n <= 78656 /\ (if 0 < x.at_ /\ x.at_ <= 70656 then ((x.data.length : Nat) : Int) + x.at_ = n else x.data.length = n) := by
      by_cases ha : 0 < x.at_ /\ x.at_ <= 70656
      · exact ⟨(x.data.length + x.at_.toNat), by omega, by rw [if_pos ha]; omega⟩
      · exact ⟨x.data.length, by omega, by rw [if_neg ha]⟩
    obtain ⟨n, hn, hn'⟩ := n0
    by_cases ha : 0 < x.at_
    · by_cases hb : x.at_ <= 70656
      · rw [if_pos ⟨ha, hb⟩] at hn'
        by_cases hgt : (sz : Int) < (n : Int)
        · rcases Bool.eq_false_or_eq_true (decide ((30000 : Int) < (n : Int) - sz)) with hh | hh
          all_goals
            simp (maxSteps := 999999) (disch := omega) only [↓sy1, sZ, readOK, Nat.reduceEqDiff, ↓reduceIte, oneOf, Nat.reduceAdd, Nat.reduceMul, reduceCtorEq, hc4.1, hc4.2.2.1, hs4, hlb, ha, hb, hn', k1, dy, Int.reduceEq, hgt, hh]
            exact R_out ⟨_, rfl, hgg.trans hg4⟩
        · simp (maxSteps := 999999) (disch := omega) only [↓sy1, sZ, readOK, Nat.reduceEqDiff, ↓reduceIte, oneOf, Nat.reduceAdd, Nat.reduceMul, reduceCtorEq, hc4.1, hc4.2.2.1, hs4, hlb, ha, hb, hn', k1, dy, Int.reduceEq, hgt]
          exact R_out ⟨_, rfl, hgg.trans hg4⟩
      · rw [if_neg (fun hh => hb hh.2)] at hn'
        by_cases hgt : (sz : Int) < (n : Int)
        · rcases Bool.eq_false_or_eq_true (decide ((30000 : Int) < (n : Int) - sz)) with hh | hh
          all_goals
            simp (maxSteps := 999999) (disch := omega) only [↓sy1, sZ, readOK, Nat.reduceEqDiff, ↓reduceIte, oneOf, Nat.reduceAdd, Nat.reduceMul, reduceCtorEq, hc4.1, hc4.2.2.1, hs4, hlb, ha, hb, hn', k1, dy, Int.reduceEq, hgt, hh]
            exact R_out ⟨_, rfl, hgg.trans hg4⟩
        · simp (maxSteps := 999999) (disch := omega) only [↓sy1, sZ, readOK, Nat.reduceEqDiff, ↓reduceIte, oneOf, Nat.reduceAdd, Nat.reduceMul, reduceCtorEq, hc4.1, hc4.2.2.1, hs4, hlb, ha, hb, hn', k1, dy, Int.reduceEq, hgt]
          exact R_out ⟨_, rfl, hgg.trans hg4⟩
    · rw [if_neg (fun hh => ha hh.1)] at hn'
      by_cases hgt : (sz : Int) < (n : Int)
      · rcases Bool.eq_false_or_eq_true (decide ((30000 : Int) < (n : Int) - sz)) with hh | hh
        all_goals
          simp (maxSteps := 999999) (disch := omega) only [↓sy1, sZ, readOK, Nat.reduceEqDiff, ↓reduceIte, oneOf, Nat.reduceAdd, Nat.reduceMul, reduceCtorEq, hc4.1, hc4.2.2.1, hs4, hlb, ha, hn', k1, dy, Int.reduceEq, hgt, hh]
          exact R_out ⟨_, rfl, hgg.trans hg4⟩
      · simp (maxSteps := 999999) (disch := omega) only [↓sy1, sZ, readOK, Nat.reduceEqDiff, ↓reduceIte, oneOf, Nat.reduceAdd, Nat.reduceMul, reduceCtorEq, hc4.1, hc4.2.2.1, hs4, hlb, ha, hn', k1, dy, Int.reduceEq, hgt]
        exact R_out ⟨_, rfl, hgg.trans hg4⟩
  have hc3 := hcc hg03
  have hs3' := hs3 (Keep.refl _ _)
  by_cases k5 : x.kind = 5
  · by_cases h4 : (40000 : Int) < (sz : Int)
    · simp (maxSteps := 999999) (disch := omega) only [↓sy1, sZ, readOK, Nat.reduceEqDiff, ↓reduceIte, oneOf, Nat.reduceAdd, Nat.reduceMul, reduceCtorEq, hst, not_true_eq_false, decide_false, hc3.1, hc3.2.2.2.1, hs3', k5, decide_true, Int.reduceEq, h4]
      exact R_out ⟨_, rfl, hgg⟩
    · by_cases hgt : (sz : Int) < x.n
      · rcases Bool.eq_false_or_eq_true (decide ((30000 : Int) < x.n - sz)) with hh | hh
        all_goals
          simp (maxSteps := 999999) (disch := omega) only [↓sy1, sZ, readOK, Nat.reduceEqDiff, ↓reduceIte, oneOf, Nat.reduceAdd, Nat.reduceMul, reduceCtorEq, hst, not_true_eq_false, decide_false, hc3.1, hc3.2.2.2.1, hs3', k5, decide_true, Int.reduceEq, h4, hgt, hh]
          exact R_out ⟨_, rfl, hgg⟩
      · simp (maxSteps := 999999) (disch := omega) only [↓sy1, sZ, readOK, Nat.reduceEqDiff, ↓reduceIte, oneOf, Nat.reduceAdd, Nat.reduceMul, reduceCtorEq, hst, not_true_eq_false, decide_false, hc3.1, hc3.2.2.2.1, hs3', k5, decide_true, Int.reduceEq, h4, hgt]
        exact R_out ⟨_, rfl, hgg⟩
  by_cases hgt : (sz : Int) < x.n
  · have hlt : ¬(x.n < (sz : Int)) := by omega
    rcases Bool.eq_false_or_eq_true (decide ((30000 : Int) < x.n - sz)) with hh | hh <;> by_cases k3 : x.kind = 3
    all_goals
      simp (maxSteps := 999999) (disch := omega) only [↓sy1, sZ, readOK, Nat.reduceEqDiff, ↓reduceIte, oneOf, Nat.reduceAdd, Nat.reduceMul, reduceCtorEq, hst, not_true_eq_false, decide_false, hc3.1, hc3.2.2.2.1, hs3', k5, k1, k3, decide_true, Int.reduceEq, hgt, hlt, hh]
      exact R_out ⟨_, rfl, hgg⟩
  by_cases k3 : x.kind = 3
  · by_cases hlt : x.n < (sz : Int)
    · simp (maxSteps := 999999) (disch := omega) only [↓sy1, sZ, readOK, Nat.reduceEqDiff, ↓reduceIte, oneOf, Nat.reduceAdd, Nat.reduceMul, reduceCtorEq, hst, not_true_eq_false, decide_false, hc3.1, hc3.2.2.2.1, hs3', k5, k1, k3, decide_true, Int.reduceEq, hgt, hlt]
      exact R_out ⟨_, rfl, hgg⟩
    · simp (maxSteps := 999999) (disch := omega) only [↓sy1, sZ, readOK, Nat.reduceEqDiff, ↓reduceIte, oneOf, Nat.reduceAdd, Nat.reduceMul, reduceCtorEq, hst, not_true_eq_false, decide_false, hc3.1, hc3.2.2.2.1, hs3', k5, k1, k3, decide_true, Int.reduceEq, hgt, hlt]
      exact R_out ⟨_, rfl, hgg⟩
  · simp (maxSteps := 999999) (disch := omega) only [↓sy1, sZ, readOK, Nat.reduceEqDiff, ↓reduceIte, oneOf, Nat.reduceAdd, Nat.reduceMul, reduceCtorEq, hst, not_true_eq_false, decide_false, hc3.1, hc3.2.2.2.1, hs3', k5, k1, k3, decide_true, Int.reduceEq, hgt]
    exact R_out ⟨_, rfl, hgg⟩
def Any6 (G : Gh) (w : World) (s m p lq k : Nat) (c : Csh) (n : Nat) : Prop := ∃ c' P I F B, Ino G 2 7 w s m p lq 0 c' P I F B /\ I.length = k /\ c'.N = c.N /\ c'.cap = c.cap /\ c'.D.ops.length <= c.D.ops.length + n
def DoR (G : Gh) (w : World) (s m p lq r k : Nat) (c : Csh) (v : Value) (w' : World) : Prop := ∃ t G', v = .bool t /\ Any6 G' w' s m p lq k c 206 /\ RS G' w' r k /\ Ext KN G w G' w'
theorem K8.kn : ∀ x, K8 x -> KN x := KN.of (by unfold K8; omega)
theorem KW.kn : ∀ x, KW 2 7 x -> KN x := KN.of (by unfold KW; omega)
theorem RS.kw {G G' : Gh} {w w' : World} {r k : Nat} (h : RS G w r k) (hx : Ext (KW 2 7) G w G' w') : RS G' w' r k := h.ext hx (by unfold KW; omega) (by unfold KW; omega) (by unfold KW; omega)
theorem Ino.k8 {G G' : Gh} {w w' : World} {s m p lq : Nat} {c : Csh} {P I : List Bool} {F : Nat -> Option Opn} {B : Nat -> List UInt8} (h : Ino G 2 7 w s m p lq 0 c P I F B) (hx : Ext K8 G w G' w') : Ino G' 2 7 w' s m p lq 0 c P I F B := h.ext hx (by unfold K8; omega) (by unfold K8; omega) (by unfold K8; omega)
set_option maxRecDepth 20000 in
set_option maxHeartbeats 16000000 in
theorem do6_spec {G : Gh} {w : World} {s m p lq r k : Nat} {c : Csh} {P I : List Bool} {F : Nat -> Option Opn} {B : Nat -> List UInt8} (h : Ino G 2 7 w s m p lq 0 c P I F B) (hk : I.length = k) (hR : RS G w r k) (ho : c.D.ops.length < 600000) {x : Deed6} (hx : x.Ok) :
    Calls Tryz.prog 8 #[.pointer (some ⟨s, 0, none⟩), .pointer (some ⟨r, 0, none⟩), x.val] w (Ret fun v w' => DoR G w s m p lq r k c v w') := by
  obtain ⟨hxi, hxa, hxn, hxd, hxm, hxl⟩ := hx
  have hcells : x.val.cells = x.cells.toArray := rfl
  have hb0 := heap_alloc_new w (.cells x.cells.toArray 31)
  have hg0 : Grow w (w.alloc (.cells x.cells.toArray 31)) := (Keep.refl _ _).alloc _
  apply enter8
  apply R_in
  simp (maxSteps := 999999) (disch := omega) only [↓sy1, sZ, readOK, Nat.reduceEqDiff, ↓reduceIte, oneOf, Nat.reduceAdd, Nat.reduceMul, reduceCtorEq, F8, hcells]
  generalize w.alloc (.cells x.cells.toArray 31) = w0 at hb0 hg0 |-
  have hx0 : Ext0 G w (G.upto w.heap.size (fun _ => 0) (fun _ => 0)) w0 := .upto hg0 _ _
  have hd0 : DeedAt (G.upto w.heap.size (fun _ => 0) (fun _ => 0)) w0 w.heap.size x := ⟨hb0, (upto_own (Nat.le_refl _)).1⟩
  generalize (G.upto w.heap.size (fun _ => 0) (fun _ => 0)) = G0 at hx0 hd0
  generalize hq : w.heap.size = q at hd0 |-
  have h0 := h.ext hx0 id id id
  have hR0 := hR.ext hx0 id id id
  have hxx0 : Ext KN G w G0 w0 := hx0.mono fE
  have hcc : ∀ {G' w'}, DeedAt G' w' q x -> w'.cell? ⟨q, 0, none⟩ = some (.int .i64 x.kind) /\ w'.cell? ⟨q, 1, none⟩ = some (.int .i64 x.i) /\ w'.cell? ⟨q, 2, none⟩ = some (.int .i64 x.at_) /\ w'.cell? ⟨q, 3, none⟩ = some (.int .i64 x.n) /\ w'.cell? ⟨q, 4, none⟩ = some (.int .i64 x.node) /\ w'.cell? ⟨q, 5, none⟩ = some (.int .i64 x.mode) /\ w'.cell? ⟨q, 6, none⟩ = some (.int .i64 x.links) /\ loadN w' ⟨q, 0, none⟩ 0 8 = some x.cells := fun hd =>
    ⟨hd.cell 0, hd.cell 1, hd.cell 2, hd.cell 3, hd.cell 4, hd.cell 5, hd.cell 6, hd.load⟩
  have hc0 := hcc hd0
  have hle := x.len_le
  have hlen := x.data_length
  clear hx0 h hR hb0 hg0
  by_cases k0 : x.kind = 0
  · simp (maxSteps := 999999) (disch := omega) only [↓sy1, sZ, readOK, Nat.reduceEqDiff, ↓reduceIte, oneOf, Nat.reduceAdd, Nat.reduceMul, reduceCtorEq, hc0, k0, decide_true]
    refine call0 (imake_any h0 (kd := x.node) (md := x.mode)) ?_
    rintro _ w1 ⟨a1, e1, G1, rfl, hx1, c1, P1, I1, F1, B1, h1, hn1, hI1⟩
    have hd1 := hd0.ext hx1 (by unfold KW; omega)
    have hR1 := hR0.kw hx1
    simp (maxSteps := 999999) (disch := omega) only [↓sy1, sZ, readOK, Nat.reduceEqDiff, ↓reduceIte, oneOf, Nat.reduceAdd, Nat.reduceMul, reduceCtorEq, hcc hd1]
    obtain ⟨Mr, lvr, Pr, Ir, hcr, hMr, hIr, _, _⟩ := hR1.parts
    refine call0 (rmk_spec hR1 (I := Ir) ⟨Mr, Pr, (hcr w1 (Keep.refl _ _)).1, hMr⟩ hIr (kd := x.node) (md := x.mode)) ?_
    rintro _ w2 ⟨rfl, G2, hR2, hx2⟩
    generalize (if mkC x.node x.mode = 0 then ((takeN Ir : Nat) : Int) else 0) = a2
    generalize (if mkC x.node x.mode = 0 then takeC Ir else 2) = e2
    have hIT := h1.k8 hx2
    have hRT := hR2
    have hnT := hn1
    have hxxT : Ext KN G w G2 w2 := (hxx0.trans (hx1.mono KW.kn)).trans (hx2.mono K8.kn)
    have hkT : I1.length = k := by omega
    obtain ⟨cT, hcT⟩ : ∃ cT, cT = c1 := ⟨_, rfl⟩
    rw [<- hcT] at hIT hnT
    have hcase : ∃ ok : Bool, (a1 = a2 /\ decide (e1 = e2) = ok) \/ (¬ a1 = a2 /\ ok = false) := by
      by_cases hh : a1 = a2
      · exact ⟨_, .inl ⟨hh, rfl⟩⟩
      · exact ⟨false, .inr ⟨hh, rfl⟩⟩
    obtain ⟨ok, hcase⟩ := hcase
    rcases hcase with ⟨haa, hee⟩ | ⟨haa, rfl⟩
    · simp (maxSteps := 999999) (disch := omega) only [↓sy1, sZ, readOK, Nat.reduceEqDiff, ↓reduceIte, oneOf, Nat.reduceAdd, Nat.reduceMul, reduceCtorEq, haa, hee, decide_true]
      refine call0 (rs_commit hRT.zero) ?_
      rintro _ wc ⟨Gc, hRc, hxc, _, _⟩
      have hIc := hIT.ext hxc (by omega) (by omega) (by omega)
      have hxxc := hxxT.trans (hxc.mono (KN.of (by omega)))
      cases ok with
      | false =>
        simp (maxSteps := 999999) (disch := omega) only [↓sy1, sZ, readOK, Nat.reduceEqDiff, ↓reduceIte, oneOf, Nat.reduceAdd, Nat.reduceMul, reduceCtorEq]
        exact R_out ⟨false, Gc, rfl, ⟨cT, _, _, _, _, hIc, hkT, by rw [hnT.1], hnT.cap, by rw [hnT.2.1]; omega⟩, hRc, hxxc⟩
      | true =>
        simp (maxSteps := 999999) (disch := omega) only [↓sy1, sZ, readOK, Nat.reduceEqDiff, ↓reduceIte, oneOf, Nat.reduceAdd, Nat.reduceMul, reduceCtorEq]
        refine call0 (imap_spec hIc.sto) ?_
        rintro _ wd ⟨rfl, hwd⟩
        subst wd
        simp (maxSteps := 999999) (disch := omega) only [↓sy1, sZ, readOK, Nat.reduceEqDiff, ↓reduceIte, oneOf, Nat.reduceAdd, Nat.reduceMul, reduceCtorEq]
        refine call0 (mcache_spec hIc.map.1) ?_
        rintro _ wd ⟨rfl, hwd⟩
        subst wd
        simp (maxSteps := 999999) (disch := omega) only [↓sy1, sZ, readOK, Nat.reduceEqDiff, ↓reduceIte, oneOf, Nat.reduceAdd, Nat.reduceMul, reduceCtorEq]
        refine call0 (mcommit_ok hIc.map (by rw [hnT.2.1]; omega)) ?_
        rintro _ we ⟨rfl, Ge, hxe, hme⟩
        obtain ⟨z1, z2, z3, z5, z4⟩ := commit_facts hIc.map.1.cache.oks
        have hfc := hIc.fs.commit hIc.map.1.cache.oks
        simp (maxSteps := 999999) (disch := omega) only [↓sy1, sZ, readOK, Nat.reduceEqDiff, ↓reduceIte, oneOf, Nat.reduceAdd, Nat.reduceMul, reduceCtorEq, decide_true]
        exact R_out ⟨true, Ge, rfl, ⟨cT.commit, _, _, _, _, ⟨hme, hIc.sto.ext hxe (by omega), hfc.1, hfc.2⟩, hkT, by rw [z1, hnT.1], by rw [z3, hnT.cap], by rw [hnT.2.1] at z4; omega⟩, hRc.ext hxe (by omega) (by omega) (by omega), hxxc.trans (hxe.mono (KN.of (by omega)))⟩
    · have hok : ∃ ok : Bool, ok = false := ⟨_, rfl⟩
      obtain ⟨ok, hok⟩ := hok
      simp (maxSteps := 999999) (disch := omega) only [↓sy1, sZ, readOK, Nat.reduceEqDiff, ↓reduceIte, oneOf, Nat.reduceAdd, Nat.reduceMul, reduceCtorEq, haa, decide_false]
      rw [<- hok]
      refine call0 (rs_commit hRT.zero) ?_
      rintro _ wc ⟨Gc, hRc, hxc, _, _⟩
      have hIc := hIT.ext hxc (by omega) (by omega) (by omega)
      have hxxc := hxxT.trans (hxc.mono (KN.of (by omega)))
      cases ok with
      | false =>
        simp (maxSteps := 999999) (disch := omega) only [↓sy1, sZ, readOK, Nat.reduceEqDiff, ↓reduceIte, oneOf, Nat.reduceAdd, Nat.reduceMul, reduceCtorEq]
        exact R_out ⟨false, Gc, rfl, ⟨cT, _, _, _, _, hIc, hkT, by rw [hnT.1], hnT.cap, by rw [hnT.2.1]; omega⟩, hRc, hxxc⟩
      | true =>
        simp (maxSteps := 999999) (disch := omega) only [↓sy1, sZ, readOK, Nat.reduceEqDiff, ↓reduceIte, oneOf, Nat.reduceAdd, Nat.reduceMul, reduceCtorEq]
        refine call0 (imap_spec hIc.sto) ?_
        rintro _ wd ⟨rfl, hwd⟩
        subst wd
        simp (maxSteps := 999999) (disch := omega) only [↓sy1, sZ, readOK, Nat.reduceEqDiff, ↓reduceIte, oneOf, Nat.reduceAdd, Nat.reduceMul, reduceCtorEq]
        refine call0 (mcache_spec hIc.map.1) ?_
        rintro _ wd ⟨rfl, hwd⟩
        subst wd
        simp (maxSteps := 999999) (disch := omega) only [↓sy1, sZ, readOK, Nat.reduceEqDiff, ↓reduceIte, oneOf, Nat.reduceAdd, Nat.reduceMul, reduceCtorEq]
        refine call0 (mcommit_ok hIc.map (by rw [hnT.2.1]; omega)) ?_
        rintro _ we ⟨rfl, Ge, hxe, hme⟩
        obtain ⟨z1, z2, z3, z5, z4⟩ := commit_facts hIc.map.1.cache.oks
        have hfc := hIc.fs.commit hIc.map.1.cache.oks
        simp (maxSteps := 999999) (disch := omega) only [↓sy1, sZ, readOK, Nat.reduceEqDiff, ↓reduceIte, oneOf, Nat.reduceAdd, Nat.reduceMul, reduceCtorEq, decide_true]
        exact R_out ⟨true, Ge, rfl, ⟨cT.commit, _, _, _, _, ⟨hme, hIc.sto.ext hxe (by omega), hfc.1, hfc.2⟩, hkT, by rw [z1, hnT.1], by rw [z3, hnT.cap], by rw [hnT.2.1] at z4; omega⟩, hRc.ext hxe (by omega) (by omega) (by omega), hxxc.trans (hxe.mono (KN.of (by omega)))⟩
  by_cases k1 : x.kind = 1
  · simp (maxSteps := 999999) (disch := omega) only [↓sy1, sZ, readOK, Nat.reduceEqDiff, ↓reduceIte, oneOf, Nat.reduceAdd, Nat.reduceMul, reduceCtorEq, hc0, k1, dy, Int.reduceEq]
    refine call0 (d6bytes_spec x) ?_
    rintro bv w1 ⟨hbv, hg1⟩
    have hx1 : Ext0 G0 w0 (G0.upto w0.heap.size (fun _ => 9) (fun _ => 0)) w1 := .upto hg1 _ _
    have hown : OwnR 9 (G0.upto w0.heap.size (fun _ => 9) (fun _ => 0)) bv := fun b hb => upto_own (World.ownsRow.lt hbv b hb).1
    generalize (G0.upto w0.heap.size (fun _ => 9) (fun _ => 0)) = G1 at hx1 hown
    have hro1 : RowO (KW 2 7) G1 w1 bv x.data := ⟨Has.own hbv, fun b hb => ⟨(World.ownsRow.lt hbv b hb).2, by rw [(hown b hb).1]; unfold KW; omega⟩⟩
    have h1 := h0.ext hx1 id id id
    have hR1 := hR0.ext hx1 id id id
    have hd1 := hd0.ext hx1 id
    have hxx1 : Ext KN G w G1 w1 := hxx0.trans (hx1.mono fE)
    simp (maxSteps := 999999) (disch := omega) only [↓sy1, sZ, readOK, Nat.reduceEqDiff, ↓reduceIte, oneOf, Nat.reduceAdd, Nat.reduceMul, reduceCtorEq]
    refine draw8_0 (fun b => KW 2 7 (G1.own b)) ?_
    have hgd : Grow w1 w1.drew := (Keep.refl _ _).drew
    have h2 := h1.grow hgd
    have hR2 := hR1.ext (K := fun _ => False) (.grow hgd) id id id
    have hd2 := hd1.grow hgd
    have hc2 := hcc hd2
    have hro2 : RowO (KW 2 7) G1 w1.drew bv x.data := hro1.ext (K' := fun _ => False) (.grow hgd) (fun _ h => h.elim)
    have hbv2 := own_grow hbv hgd
    have hb7 : ¬ KW 2 7 (G1.own q) := by rw [hd1.own]; unfold KW; omega
    have hxx2 : Ext KN G w G1 w1.drew := hxx1.trans ((Ext.grow hgd (κ := fun _ => False)).mono fE)
    generalize w1.drew = w2 at hgd h2 hR2 hd2 hc2 hro2 hbv2 hxx2 |-
    simp (maxSteps := 999999) (disch := omega) only [↓sy1, sZ, readOK, Nat.reduceEqDiff, ↓reduceIte, oneOf, Nat.reduceAdd, Nat.reduceMul, reduceCtorEq, PL8_0, hc2, hb7]
    refine ⟨?_, Keep.refl _ _, ?_⟩
    all_goals
      refine call0 (iwrite_any h2 (i := x.i) (pos := x.at_) hro2 (by omega) hxa) ?_
      rintro _ w3 ⟨e1, G3, rfl, hx3, c3, P3, I3, F3, B3, h3, hn3, hI3⟩
      have hd3 := hd2.ext hx3 (by unfold KW; omega)
      have hR3 := hR2.kw hx3
      have hbv3 := ownR_keep hown hx3 hbv2 (by unfold KW; omega)
      have hown3 := hown.ext hx3 hbv2 (by unfold KW; omega)
      have hxx3 := hxx2.trans (hx3.mono KW.kn)
      simp (maxSteps := 999999) (disch := omega) only [↓sy1, sZ, readOK, Nat.reduceEqDiff, ↓reduceIte, oneOf, Nat.reduceAdd, Nat.reduceMul, reduceCtorEq, hcc hd3]
      first
        | refine ⟨hx3.keep, hx3.keep, ?_⟩
        | refine ⟨hx3.keep, ?_⟩
    all_goals
      refine call0 (d6bytes_spec x) ?_
      rintro bv4 w4 ⟨hbv4, hg4⟩
      have hK4 : Keep (fun b => KW 2 7 (G1.own b)) w2 w4 := hx3.keep.trans (hg4.mono (fun _ _ h => h.elim))
      have hx4 : Ext0 G3 w3 (G3.upto w3.heap.size (fun _ => 9) (fun _ => 0)) w4 := .upto hg4 _ _
      have hro4 : RowO K8 (G3.upto w3.heap.size (fun _ => 9) (fun _ => 0)) w4 bv4 x.data := ⟨Has.own hbv4, fun b hb => ⟨(World.ownsRow.lt hbv4 b hb).2, by rw [(upto_own (World.ownsRow.lt hbv4 b hb).1).1]; unfold K8; omega⟩⟩
      have hown4 := hown3.ext hx4 hbv3 id
      generalize (G3.upto w3.heap.size (fun _ => 9) (fun _ => 0)) = G4 at hx4 hro4 hown4
      have hR4 := hR3.ext hx4 id id id
      have h4 := h3.ext hx4 id id id
      have hbv4' := own_grow hbv3 hg4
      simp (maxSteps := 999999) (disch := omega) only [↓sy1, sZ, readOK, Nat.reduceEqDiff, ↓reduceIte, oneOf, Nat.reduceAdd, Nat.reduceMul, reduceCtorEq]
      refine ⟨hK4, ?_⟩
      refine call0 (rwritef_spec hR4 (i := x.i) (pos := x.at_) hro4 (by omega) hxa) ?_
      rintro _ w5 ⟨e2, G5, rfl, hR5, hx5, _⟩
      have h5 := h4.k8 hx5
      have hbv5 := ownR_keep hown4 hx5 hbv4' (by unfold K8; omega)
      have hown5 := hown4.ext hx5 hbv4' (by unfold K8; omega)
      have hxx5 : Ext KN G w G5 w5 := (hxx3.trans (hx4.mono fE)).trans (hx5.mono K8.kn)
      have hlb : ∀ w', lenF w' 0 bv = some (.int .i64 x.data.length) := own_lenF hbv5
      simp (maxSteps := 999999) (disch := omega) only [↓sy1, sZ, readOK, Nat.reduceEqDiff, ↓reduceIte, oneOf, Nat.reduceAdd, Nat.reduceMul, reduceCtorEq]
      generalize decide (e1 = e2) = ok
      refine loop_rule (fun e w' => ∃ (m' : Nat) (xs : List Value), m' <= x.data.length /\ e 0 = .pointer (some ⟨s, 0, none⟩) /\ e 1 = .pointer (some ⟨r, 0, none⟩) /\ e 7 = .bool ok /\ e 12 = bv /\ e 13 = .int .i64 m' /\ w'.ownsRow w0.heap.size 5 1 bv x.data.length xs /\ Ext (fun c => c = 9) G5 w5 G5 w') (fun e _ => x.data.length - (intOf (e 13)).toNat)
        ⟨0, bs x.data, by omega, by simp [upd, updO, ev], by simp [upd, updO, ev], by simp [upd, updO, ev], by simp [upd, updO, ev], by simp [upd, updO, ev], hbv5, .refl _ _ _⟩ ?_
      rintro e w6 ⟨m', xs, hm', e0, e1', e7, e12, e13, ho6, hx6⟩
      by_cases hlt : m' < x.data.length
      · obtain ⟨a7, w7, ha7, hst7, ho7, hk7, _⟩ := own_store ho6 hlt (u := .int .u8 99) rfl
        simp (maxSteps := 999999) (disch := omega) only [↓sy1, sZ, readOK, Nat.reduceEqDiff, ↓reduceIte, oneOf, Nat.reduceAdd, Nat.reduceMul, reduceCtorEq, F8_L0, e0, e1', e7, e12, e13, hlb, Int.ofNat_lt, hlt, decide_true, ha7, hst7]
        exact R_out ⟨⟨m' + 1, _, by omega, rfl, ho7, hx6.trans (.onS0 hk7 (fun b hb => hown5 b hb))⟩, by simp only [intOf]; omega⟩
      simp (maxSteps := 999999) (disch := omega) only [↓sy1, sZ, readOK, Nat.reduceEqDiff, ↓reduceIte, oneOf, Nat.reduceAdd, Nat.reduceMul, reduceCtorEq, F8_L0, e0, e1', e7, e12, e13, hlb, Int.ofNat_lt, hlt, dy]
      have hIT := h5.ext hx6 (by omega) (by omega) (by omega)
      have hRT := hR5.ext hx6 (by omega) (by omega) (by omega)
      have hxxT : Ext KN G w G5 w6 := hxx5.trans (hx6.mono (KN.of (by omega)))
      have hkT : I3.length = k := by omega
      obtain ⟨cT, hcT⟩ : ∃ cT, cT = c3 := ⟨_, rfl⟩
      have hnT := hn3
      rw [<- hcT] at hIT hnT
      refine call0 (rs_commit hRT.zero) ?_
      rintro _ wc ⟨Gc, hRc, hxc, _, _⟩
      have hIc := hIT.ext hxc (by omega) (by omega) (by omega)
      have hxxc := hxxT.trans (hxc.mono (KN.of (by omega)))
      cases ok with
      | false =>
        simp (maxSteps := 999999) (disch := omega) only [↓sy1, sZ, readOK, Nat.reduceEqDiff, ↓reduceIte, oneOf, Nat.reduceAdd, Nat.reduceMul, reduceCtorEq, e0, e1', e7, e12, e13]
        exact R_out ⟨false, Gc, rfl, ⟨cT, _, _, _, _, hIc, hkT, by rw [hnT.1], hnT.cap, by rw [hnT.2.1]; omega⟩, hRc, hxxc⟩
      | true =>
        simp (maxSteps := 999999) (disch := omega) only [↓sy1, sZ, readOK, Nat.reduceEqDiff, ↓reduceIte, oneOf, Nat.reduceAdd, Nat.reduceMul, reduceCtorEq, e0, e1', e7, e12, e13]
        refine call0 (imap_spec hIc.sto) ?_
        rintro _ wd ⟨rfl, hwd⟩
        subst wd
        simp (maxSteps := 999999) (disch := omega) only [↓sy1, sZ, readOK, Nat.reduceEqDiff, ↓reduceIte, oneOf, Nat.reduceAdd, Nat.reduceMul, reduceCtorEq, e0, e1', e7, e12, e13]
        refine call0 (mcache_spec hIc.map.1) ?_
        rintro _ wd ⟨rfl, hwd⟩
        subst wd
        simp (maxSteps := 999999) (disch := omega) only [↓sy1, sZ, readOK, Nat.reduceEqDiff, ↓reduceIte, oneOf, Nat.reduceAdd, Nat.reduceMul, reduceCtorEq, e0, e1', e7, e12, e13]
        refine call0 (mcommit_ok hIc.map (by rw [hnT.2.1]; omega)) ?_
        rintro _ we ⟨rfl, Ge, hxe, hme⟩
        obtain ⟨z1, z2, z3, z5, z4⟩ := commit_facts hIc.map.1.cache.oks
        have hfc := hIc.fs.commit hIc.map.1.cache.oks
        simp (maxSteps := 999999) (disch := omega) only [↓sy1, sZ, readOK, Nat.reduceEqDiff, ↓reduceIte, oneOf, Nat.reduceAdd, Nat.reduceMul, reduceCtorEq, e0, e1', e7, e12, e13, decide_true]
        exact R_out ⟨true, Ge, rfl, ⟨cT.commit, _, _, _, _, ⟨hme, hIc.sto.ext hxe (by omega), hfc.1, hfc.2⟩, hkT, by rw [z1, hnT.1], by rw [z3, hnT.cap], by rw [hnT.2.1] at z4; omega⟩, hRc.ext hxe (by omega) (by omega) (by omega), hxxc.trans (hxe.mono (KN.of (by omega)))⟩
  by_cases k2 : x.kind = 2
  · simp (maxSteps := 999999) (disch := omega) only [↓sy1, sZ, readOK, Nat.reduceEqDiff, ↓reduceIte, oneOf, Nat.reduceAdd, Nat.reduceMul, reduceCtorEq, hc0, k2, dy, Int.reduceEq]
    refine call0 (iread_spec (ρ := 9) h0 (by omega) (i := x.i) (pos := x.at_) (n := x.n) hxa hxn) ?_
    rintro _ w1 ⟨u1, G1, rfl, hu1, hur1, hx1, h1⟩
    have hd1 := hd0.ext hx1 (by omega)
    have hR1 := hR0.ext hx1 (by omega) (by omega) (by omega)
    have hl1 : (rdB F B I.length x.i x.at_ x.n).length <= 70656 := by
      unfold rdB
      split
      · simp
      · rename_i hc
        have hc' : rdC F I.length x.i x.at_ x.n = 0 := Decidable.not_not.1 hc
        rcases look_cases F I.length x.i with ⟨hl, _⟩ | ⟨hl, j, o, hij, hj1, hjk, hF, _⟩
        · unfold rdC at hc'
          rw [if_pos hl] at hc'
          exact absurd hc' hl
        · have := h1.blen hF
          have : x.i.toNat = j := by omega
          rw [this]
          simp only [List.length_take, List.length_drop]
          omega
    generalize rdB F B I.length x.i x.at_ x.n = l1 at hu1 hl1
    generalize rdC F I.length x.i x.at_ x.n = e1
    simp (maxSteps := 999999) (disch := omega) only [↓sy1, sZ, readOK, Nat.reduceEqDiff, ↓reduceIte, oneOf, Nat.reduceAdd, Nat.reduceMul, reduceCtorEq, hcc hd1]
    refine call0 (rreadf_spec hR1 (i := x.i) (pos := x.at_) (n := x.n) hxa) ?_
    rintro _ w2 ⟨u2, e2, l2, rfl, hu2, hl2, hg2⟩
    have hsm := sameBytes_spec u1 u2 l1 l2 w2 ((Has.own hu1).grow hg2) (Has.own hu2) (by omega)
    simp (maxSteps := 999999) (disch := omega) only [↓sy1, sZ, readOK, Nat.reduceEqDiff, ↓reduceIte, oneOf, Nat.reduceAdd, Nat.reduceMul, reduceCtorEq]
    refine call0 hsm ?_
    rintro _ w3 ⟨rfl, hg3⟩
    have hIT := (h1.grow hg2).grow hg3
    have hRT := (hR1.ext (K := fun _ => False) (.grow hg2) id id id).ext (K := fun _ => False) (.grow hg3) id id id
    have hnT : Near c c := .refl c
    have hxxT : Ext KN G w G1 w3 := (hxx0.trans (hx1.mono (KN.of (by omega)))).trans ((Ext.grow (hg2.trans hg3) (κ := fun _ => False)).mono fE)
    have hkT : I.length = k := hk
    obtain ⟨cT, hcT⟩ : ∃ cT, cT = c := ⟨_, rfl⟩
    have hIT : Ino G1 2 7 w3 s m p lq 0 cT P I F B := by rw [hcT]; exact hIT
    have hnT : Near c cT := by rw [hcT]; exact hnT
    have hcase : ∃ ok : Bool, (decide (l1 = l2) = true /\ decide (e1 = e2) = ok) \/ (decide (l1 = l2) = false /\ ok = false) := by
      rcases Bool.eq_false_or_eq_true (decide (l1 = l2)) with hh | hh
      · exact ⟨_, .inl ⟨hh, rfl⟩⟩
      · exact ⟨false, .inr ⟨hh, rfl⟩⟩
    obtain ⟨ok, hcase⟩ := hcase
    rcases hcase with ⟨haa, hee⟩ | ⟨haa, hok⟩
    · simp (maxSteps := 999999) (disch := omega) only [↓sy1, sZ, readOK, Nat.reduceEqDiff, ↓reduceIte, oneOf, Nat.reduceAdd, Nat.reduceMul, reduceCtorEq, haa, hee]
      refine call0 (rs_commit hRT.zero) ?_
      rintro _ wc ⟨Gc, hRc, hxc, _, _⟩
      have hIc := hIT.ext hxc (by omega) (by omega) (by omega)
      have hxxc := hxxT.trans (hxc.mono (KN.of (by omega)))
      cases ok with
      | false =>
        simp (maxSteps := 999999) (disch := omega) only [↓sy1, sZ, readOK, Nat.reduceEqDiff, ↓reduceIte, oneOf, Nat.reduceAdd, Nat.reduceMul, reduceCtorEq]
        exact R_out ⟨false, Gc, rfl, ⟨cT, _, _, _, _, hIc, hkT, by rw [hnT.1], hnT.cap, by rw [hnT.2.1]; omega⟩, hRc, hxxc⟩
      | true =>
        simp (maxSteps := 999999) (disch := omega) only [↓sy1, sZ, readOK, Nat.reduceEqDiff, ↓reduceIte, oneOf, Nat.reduceAdd, Nat.reduceMul, reduceCtorEq]
        refine call0 (imap_spec hIc.sto) ?_
        rintro _ wd ⟨rfl, hwd⟩
        subst wd
        simp (maxSteps := 999999) (disch := omega) only [↓sy1, sZ, readOK, Nat.reduceEqDiff, ↓reduceIte, oneOf, Nat.reduceAdd, Nat.reduceMul, reduceCtorEq]
        refine call0 (mcache_spec hIc.map.1) ?_
        rintro _ wd ⟨rfl, hwd⟩
        subst wd
        simp (maxSteps := 999999) (disch := omega) only [↓sy1, sZ, readOK, Nat.reduceEqDiff, ↓reduceIte, oneOf, Nat.reduceAdd, Nat.reduceMul, reduceCtorEq]
        refine call0 (mcommit_ok hIc.map (by rw [hnT.2.1]; omega)) ?_
        rintro _ we ⟨rfl, Ge, hxe, hme⟩
        obtain ⟨z1, z2, z3, z5, z4⟩ := commit_facts hIc.map.1.cache.oks
        have hfc := hIc.fs.commit hIc.map.1.cache.oks
        simp (maxSteps := 999999) (disch := omega) only [↓sy1, sZ, readOK, Nat.reduceEqDiff, ↓reduceIte, oneOf, Nat.reduceAdd, Nat.reduceMul, reduceCtorEq, decide_true]
        exact R_out ⟨true, Ge, rfl, ⟨cT.commit, _, _, _, _, ⟨hme, hIc.sto.ext hxe (by omega), hfc.1, hfc.2⟩, hkT, by rw [z1, hnT.1], by rw [z3, hnT.cap], by rw [hnT.2.1] at z4; omega⟩, hRc.ext hxe (by omega) (by omega) (by omega), hxxc.trans (hxe.mono (KN.of (by omega)))⟩
    · simp (maxSteps := 999999) (disch := omega) only [↓sy1, sZ, readOK, Nat.reduceEqDiff, ↓reduceIte, oneOf, Nat.reduceAdd, Nat.reduceMul, reduceCtorEq, haa]
      rw [<- hok]
      refine call0 (rs_commit hRT.zero) ?_
      rintro _ wc ⟨Gc, hRc, hxc, _, _⟩
      have hIc := hIT.ext hxc (by omega) (by omega) (by omega)
      have hxxc := hxxT.trans (hxc.mono (KN.of (by omega)))
      cases ok with
      | false =>
        simp (maxSteps := 999999) (disch := omega) only [↓sy1, sZ, readOK, Nat.reduceEqDiff, ↓reduceIte, oneOf, Nat.reduceAdd, Nat.reduceMul, reduceCtorEq]
        exact R_out ⟨false, Gc, rfl, ⟨cT, _, _, _, _, hIc, hkT, by rw [hnT.1], hnT.cap, by rw [hnT.2.1]; omega⟩, hRc, hxxc⟩
      | true =>
        simp (maxSteps := 999999) (disch := omega) only [↓sy1, sZ, readOK, Nat.reduceEqDiff, ↓reduceIte, oneOf, Nat.reduceAdd, Nat.reduceMul, reduceCtorEq]
        refine call0 (imap_spec hIc.sto) ?_
        rintro _ wd ⟨rfl, hwd⟩
        subst wd
        simp (maxSteps := 999999) (disch := omega) only [↓sy1, sZ, readOK, Nat.reduceEqDiff, ↓reduceIte, oneOf, Nat.reduceAdd, Nat.reduceMul, reduceCtorEq]
        refine call0 (mcache_spec hIc.map.1) ?_
        rintro _ wd ⟨rfl, hwd⟩
        subst wd
        simp (maxSteps := 999999) (disch := omega) only [↓sy1, sZ, readOK, Nat.reduceEqDiff, ↓reduceIte, oneOf, Nat.reduceAdd, Nat.reduceMul, reduceCtorEq]
        refine call0 (mcommit_ok hIc.map (by rw [hnT.2.1]; omega)) ?_
        rintro _ we ⟨rfl, Ge, hxe, hme⟩
        obtain ⟨z1, z2, z3, z5, z4⟩ := commit_facts hIc.map.1.cache.oks
        have hfc := hIc.fs.commit hIc.map.1.cache.oks
        simp (maxSteps := 999999) (disch := omega) only [↓sy1, sZ, readOK, Nat.reduceEqDiff, ↓reduceIte, oneOf, Nat.reduceAdd, Nat.reduceMul, reduceCtorEq, decide_true]
        exact R_out ⟨true, Ge, rfl, ⟨cT.commit, _, _, _, _, ⟨hme, hIc.sto.ext hxe (by omega), hfc.1, hfc.2⟩, hkT, by rw [z1, hnT.1], by rw [z3, hnT.cap], by rw [hnT.2.1] at z4; omega⟩, hRc.ext hxe (by omega) (by omega) (by omega), hxxc.trans (hxe.mono (KN.of (by omega)))⟩
  by_cases k3 : x.kind = 3
  · simp (maxSteps := 999999) (disch := omega) only [↓sy1, sZ, readOK, Nat.reduceEqDiff, ↓reduceIte, oneOf, Nat.reduceAdd, Nat.reduceMul, reduceCtorEq, hc0, k3, dy, Int.reduceEq]
    refine draw8_1 (fun b => KW 2 7 (G0.own b)) ?_
    have hgd : Grow w0 w0.drew := (Keep.refl _ _).drew
    have hm := h0.grow hgd
    have hRd := hR0.ext (K := fun _ => False) (.grow hgd) id id id
    have hdd := hd0.grow hgd
    have hcd := hcc hdd
    have hxd : Ext KN G w G0 w0.drew := hxx0.trans ((Ext.grow hgd (κ := fun _ => False)).mono fE)
    have hb7 : ¬ KW 2 7 (G0.own q) := by rw [hd0.own]; unfold KW; omega
    generalize w0.drew = w1 at hgd hm hRd hdd hcd hxd |-
    simp (maxSteps := 999999) (disch := omega) only [↓sy1, sZ, readOK, Nat.reduceEqDiff, ↓reduceIte, oneOf, Nat.reduceAdd, Nat.reduceMul, reduceCtorEq, PL8_1, hcd, hb7]
    refine call0 (iresize_any hm (i := x.i) (n := x.n)) ?_
    rintro _ w2 ⟨e1, G2, rfl, hx2, c2, P2, I2, F2, B2, h2, hn2, hI2⟩
    simp (maxSteps := 999999) (disch := omega) only [↓sy1, sZ, readOK, Nat.reduceEqDiff, ↓reduceIte, oneOf, Nat.reduceAdd, Nat.reduceMul, reduceCtorEq]
    refine ⟨hx2.keep, ?_⟩
    have hR2 := hRd.kw hx2
    refine call0 (rrsz_spec hR2 (i := x.i) (n := x.n)) ?_
    rintro _ w3 ⟨e2, G3, rfl, hRT, hx3, _⟩
    have hIT := h2.k8 hx3
    have hxxT : Ext KN G w G3 w3 := (hxd.trans (hx2.mono KW.kn)).trans (hx3.mono K8.kn)
    have hkT : I2.length = k := by omega
    obtain ⟨cT, hcT⟩ : ∃ cT, cT = c2 := ⟨_, rfl⟩
    have hnT := hn2
    rw [<- hcT] at hIT hnT
    simp (maxSteps := 999999) (disch := omega) only [↓sy1, sZ, readOK, Nat.reduceEqDiff, ↓reduceIte, oneOf, Nat.reduceAdd, Nat.reduceMul, reduceCtorEq]
    generalize decide (e1 = e2) = ok
    refine call0 (rs_commit hRT.zero) ?_
    rintro _ wc ⟨Gc, hRc, hxc, _, _⟩
    have hIc := hIT.ext hxc (by omega) (by omega) (by omega)
    have hxxc := hxxT.trans (hxc.mono (KN.of (by omega)))
    cases ok with
    | false =>
      simp (maxSteps := 999999) (disch := omega) only [↓sy1, sZ, readOK, Nat.reduceEqDiff, ↓reduceIte, oneOf, Nat.reduceAdd, Nat.reduceMul, reduceCtorEq]
      exact R_out ⟨false, Gc, rfl, ⟨cT, _, _, _, _, hIc, hkT, by rw [hnT.1], hnT.cap, by rw [hnT.2.1]; omega⟩, hRc, hxxc⟩
    | true =>
      simp (maxSteps := 999999) (disch := omega) only [↓sy1, sZ, readOK, Nat.reduceEqDiff, ↓reduceIte, oneOf, Nat.reduceAdd, Nat.reduceMul, reduceCtorEq]
      refine call0 (imap_spec hIc.sto) ?_
      rintro _ wd ⟨rfl, hwd⟩
      subst wd
      simp (maxSteps := 999999) (disch := omega) only [↓sy1, sZ, readOK, Nat.reduceEqDiff, ↓reduceIte, oneOf, Nat.reduceAdd, Nat.reduceMul, reduceCtorEq]
      refine call0 (mcache_spec hIc.map.1) ?_
      rintro _ wd ⟨rfl, hwd⟩
      subst wd
      simp (maxSteps := 999999) (disch := omega) only [↓sy1, sZ, readOK, Nat.reduceEqDiff, ↓reduceIte, oneOf, Nat.reduceAdd, Nat.reduceMul, reduceCtorEq]
      refine call0 (mcommit_ok hIc.map (by rw [hnT.2.1]; omega)) ?_
      rintro _ we ⟨rfl, Ge, hxe, hme⟩
      obtain ⟨z1, z2, z3, z5, z4⟩ := commit_facts hIc.map.1.cache.oks
      have hfc := hIc.fs.commit hIc.map.1.cache.oks
      simp (maxSteps := 999999) (disch := omega) only [↓sy1, sZ, readOK, Nat.reduceEqDiff, ↓reduceIte, oneOf, Nat.reduceAdd, Nat.reduceMul, reduceCtorEq, decide_true]
      exact R_out ⟨true, Ge, rfl, ⟨cT.commit, _, _, _, _, ⟨hme, hIc.sto.ext hxe (by omega), hfc.1, hfc.2⟩, hkT, by rw [z1, hnT.1], by rw [z3, hnT.cap], by rw [hnT.2.1] at z4; omega⟩, hRc.ext hxe (by omega) (by omega) (by omega), hxxc.trans (hxe.mono (KN.of (by omega)))⟩
  by_cases k4 : x.kind = 4
  · simp (maxSteps := 999999) (disch := omega) only [↓sy1, sZ, readOK, Nat.reduceEqDiff, ↓reduceIte, oneOf, Nat.reduceAdd, Nat.reduceMul, reduceCtorEq, hc0, k4, dy, Int.reduceEq]
    refine draw8_2 (fun b => KW 2 7 (G0.own b)) ?_
    have hgd : Grow w0 w0.drew := (Keep.refl _ _).drew
    have hm := h0.grow hgd
    have hRd := hR0.ext (K := fun _ => False) (.grow hgd) id id id
    have hdd := hd0.grow hgd
    have hcd := hcc hdd
    have hxd : Ext KN G w G0 w0.drew := hxx0.trans ((Ext.grow hgd (κ := fun _ => False)).mono fE)
    have hb7 : ¬ KW 2 7 (G0.own q) := by rw [hd0.own]; unfold KW; omega
    generalize w0.drew = w1 at hgd hm hRd hdd hcd hxd |-
    simp (maxSteps := 999999) (disch := omega) only [↓sy1, sZ, readOK, Nat.reduceEqDiff, ↓reduceIte, oneOf, Nat.reduceAdd, Nat.reduceMul, reduceCtorEq, PL8_2, hcd, hb7]
    refine call0 (iset_any hm (i := x.i) (md := x.mode) (ln := x.links)) ?_
    rintro _ w2 ⟨e1, G2, rfl, hx2, c2, P2, I2, F2, B2, h2, hn2, hI2⟩
    simp (maxSteps := 999999) (disch := omega) only [↓sy1, sZ, readOK, Nat.reduceEqDiff, ↓reduceIte, oneOf, Nat.reduceAdd, Nat.reduceMul, reduceCtorEq]
    refine ⟨hx2.keep, ?_⟩
    have hR2 := hRd.kw hx2
    refine call0 (rsetm_spec hR2 (i := x.i) (md := x.mode) (ln := x.links)) ?_
    rintro _ w3 ⟨e2, G3, rfl, hRT, hx3, _⟩
    have hIT := h2.k8 hx3
    have hxxT : Ext KN G w G3 w3 := (hxd.trans (hx2.mono KW.kn)).trans (hx3.mono K8.kn)
    have hkT : I2.length = k := by omega
    obtain ⟨cT, hcT⟩ : ∃ cT, cT = c2 := ⟨_, rfl⟩
    have hnT := hn2
    rw [<- hcT] at hIT hnT
    simp (maxSteps := 999999) (disch := omega) only [↓sy1, sZ, readOK, Nat.reduceEqDiff, ↓reduceIte, oneOf, Nat.reduceAdd, Nat.reduceMul, reduceCtorEq]
    generalize decide (e1 = e2) = ok
    refine call0 (rs_commit hRT.zero) ?_
    rintro _ wc ⟨Gc, hRc, hxc, _, _⟩
    have hIc := hIT.ext hxc (by omega) (by omega) (by omega)
    have hxxc := hxxT.trans (hxc.mono (KN.of (by omega)))
    cases ok with
    | false =>
      simp (maxSteps := 999999) (disch := omega) only [↓sy1, sZ, readOK, Nat.reduceEqDiff, ↓reduceIte, oneOf, Nat.reduceAdd, Nat.reduceMul, reduceCtorEq]
      exact R_out ⟨false, Gc, rfl, ⟨cT, _, _, _, _, hIc, hkT, by rw [hnT.1], hnT.cap, by rw [hnT.2.1]; omega⟩, hRc, hxxc⟩
    | true =>
      simp (maxSteps := 999999) (disch := omega) only [↓sy1, sZ, readOK, Nat.reduceEqDiff, ↓reduceIte, oneOf, Nat.reduceAdd, Nat.reduceMul, reduceCtorEq]
      refine call0 (imap_spec hIc.sto) ?_
      rintro _ wd ⟨rfl, hwd⟩
      subst wd
      simp (maxSteps := 999999) (disch := omega) only [↓sy1, sZ, readOK, Nat.reduceEqDiff, ↓reduceIte, oneOf, Nat.reduceAdd, Nat.reduceMul, reduceCtorEq]
      refine call0 (mcache_spec hIc.map.1) ?_
      rintro _ wd ⟨rfl, hwd⟩
      subst wd
      simp (maxSteps := 999999) (disch := omega) only [↓sy1, sZ, readOK, Nat.reduceEqDiff, ↓reduceIte, oneOf, Nat.reduceAdd, Nat.reduceMul, reduceCtorEq]
      refine call0 (mcommit_ok hIc.map (by rw [hnT.2.1]; omega)) ?_
      rintro _ we ⟨rfl, Ge, hxe, hme⟩
      obtain ⟨z1, z2, z3, z5, z4⟩ := commit_facts hIc.map.1.cache.oks
      have hfc := hIc.fs.commit hIc.map.1.cache.oks
      simp (maxSteps := 999999) (disch := omega) only [↓sy1, sZ, readOK, Nat.reduceEqDiff, ↓reduceIte, oneOf, Nat.reduceAdd, Nat.reduceMul, reduceCtorEq, decide_true]
      exact R_out ⟨true, Ge, rfl, ⟨cT.commit, _, _, _, _, ⟨hme, hIc.sto.ext hxe (by omega), hfc.1, hfc.2⟩, hkT, by rw [z1, hnT.1], by rw [z3, hnT.cap], by rw [hnT.2.1] at z4; omega⟩, hRc.ext hxe (by omega) (by omega) (by omega), hxxc.trans (hxe.mono (KN.of (by omega)))⟩
  by_cases k5 : x.kind = 5
  · simp (maxSteps := 999999) (disch := omega) only [↓sy1, sZ, readOK, Nat.reduceEqDiff, ↓reduceIte, oneOf, Nat.reduceAdd, Nat.reduceMul, reduceCtorEq, hc0, k5, dy, Int.reduceEq]
    refine draw8_3 (fun b => KW 2 7 (G0.own b)) ?_
    have hgd : Grow w0 w0.drew := (Keep.refl _ _).drew
    have hm := h0.grow hgd
    have hRd := hR0.ext (K := fun _ => False) (.grow hgd) id id id
    have hdd := hd0.grow hgd
    have hcd := hcc hdd
    have hxd : Ext KN G w G0 w0.drew := hxx0.trans ((Ext.grow hgd (κ := fun _ => False)).mono fE)
    have hb7 : ¬ KW 2 7 (G0.own q) := by rw [hd0.own]; unfold KW; omega
    generalize w0.drew = w1 at hgd hm hRd hdd hcd hxd |-
    simp (maxSteps := 999999) (disch := omega) only [↓sy1, sZ, readOK, Nat.reduceEqDiff, ↓reduceIte, oneOf, Nat.reduceAdd, Nat.reduceMul, reduceCtorEq, PL8_3, hcd, hb7]
    refine call0 (idrop_any hm (i := x.i)) ?_
    rintro _ w2 ⟨e1, G2, rfl, hx2, c2, P2, I2, F2, B2, h2, hn2, hI2⟩
    simp (maxSteps := 999999) (disch := omega) only [↓sy1, sZ, readOK, Nat.reduceEqDiff, ↓reduceIte, oneOf, Nat.reduceAdd, Nat.reduceMul, reduceCtorEq]
    refine ⟨hx2.keep, ?_⟩
    have hR2 := hRd.kw hx2
    refine call0 (rdropf_spec hR2 (i := x.i)) ?_
    rintro _ w3 ⟨e2, G3, rfl, hRT, hx3, _⟩
    have hIT := h2.k8 hx3
    have hxxT : Ext KN G w G3 w3 := (hxd.trans (hx2.mono KW.kn)).trans (hx3.mono K8.kn)
    have hkT : I2.length = k := by omega
    obtain ⟨cT, hcT⟩ : ∃ cT, cT = c2 := ⟨_, rfl⟩
    have hnT := hn2
    rw [<- hcT] at hIT hnT
    simp (maxSteps := 999999) (disch := omega) only [↓sy1, sZ, readOK, Nat.reduceEqDiff, ↓reduceIte, oneOf, Nat.reduceAdd, Nat.reduceMul, reduceCtorEq]
    generalize decide (e1 = e2) = ok
    refine call0 (rs_commit hRT.zero) ?_
    rintro _ wc ⟨Gc, hRc, hxc, _, _⟩
    have hIc := hIT.ext hxc (by omega) (by omega) (by omega)
    have hxxc := hxxT.trans (hxc.mono (KN.of (by omega)))
    cases ok with
    | false =>
      simp (maxSteps := 999999) (disch := omega) only [↓sy1, sZ, readOK, Nat.reduceEqDiff, ↓reduceIte, oneOf, Nat.reduceAdd, Nat.reduceMul, reduceCtorEq]
      exact R_out ⟨false, Gc, rfl, ⟨cT, _, _, _, _, hIc, hkT, by rw [hnT.1], hnT.cap, by rw [hnT.2.1]; omega⟩, hRc, hxxc⟩
    | true =>
      simp (maxSteps := 999999) (disch := omega) only [↓sy1, sZ, readOK, Nat.reduceEqDiff, ↓reduceIte, oneOf, Nat.reduceAdd, Nat.reduceMul, reduceCtorEq]
      refine call0 (imap_spec hIc.sto) ?_
      rintro _ wd ⟨rfl, hwd⟩
      subst wd
      simp (maxSteps := 999999) (disch := omega) only [↓sy1, sZ, readOK, Nat.reduceEqDiff, ↓reduceIte, oneOf, Nat.reduceAdd, Nat.reduceMul, reduceCtorEq]
      refine call0 (mcache_spec hIc.map.1) ?_
      rintro _ wd ⟨rfl, hwd⟩
      subst wd
      simp (maxSteps := 999999) (disch := omega) only [↓sy1, sZ, readOK, Nat.reduceEqDiff, ↓reduceIte, oneOf, Nat.reduceAdd, Nat.reduceMul, reduceCtorEq]
      refine call0 (mcommit_ok hIc.map (by rw [hnT.2.1]; omega)) ?_
      rintro _ we ⟨rfl, Ge, hxe, hme⟩
      obtain ⟨z1, z2, z3, z5, z4⟩ := commit_facts hIc.map.1.cache.oks
      have hfc := hIc.fs.commit hIc.map.1.cache.oks
      simp (maxSteps := 999999) (disch := omega) only [↓sy1, sZ, readOK, Nat.reduceEqDiff, ↓reduceIte, oneOf, Nat.reduceAdd, Nat.reduceMul, reduceCtorEq, decide_true]
      exact R_out ⟨true, Ge, rfl, ⟨cT.commit, _, _, _, _, ⟨hme, hIc.sto.ext hxe (by omega), hfc.1, hfc.2⟩, hkT, by rw [z1, hnT.1], by rw [z3, hnT.cap], by rw [hnT.2.1] at z4; omega⟩, hRc.ext hxe (by omega) (by omega) (by omega), hxxc.trans (hxe.mono (KN.of (by omega)))⟩
  · simp (maxSteps := 999999) (disch := omega) only [↓sy1, sZ, readOK, Nat.reduceEqDiff, ↓reduceIte, oneOf, Nat.reduceAdd, Nat.reduceMul, reduceCtorEq, hc0, k0, k1, k2, k3, k4, k5, dy, Int.reduceEq]
    have hIT := h0
    have hRT := hR0
    have hxxT := hxx0
    have hkT : I.length = k := hk
    obtain ⟨cT, hcT⟩ : ∃ cT, cT = c := ⟨_, rfl⟩
    have hIT : Ino G0 2 7 w0 s m p lq 0 cT P I F B := by rw [hcT]; exact hIT
    have hnT : Near c cT := by rw [hcT]; exact .refl c
    refine call0 (rs_commit hRT.zero) ?_
    rintro _ wc ⟨Gc, hRc, hxc, _, _⟩
    have hIc := hIT.ext hxc (by omega) (by omega) (by omega)
    have hxxc := hxxT.trans (hxc.mono (KN.of (by omega)))
    simp (maxSteps := 999999) (disch := omega) only [↓sy1, sZ, readOK, Nat.reduceEqDiff, ↓reduceIte, oneOf, Nat.reduceAdd, Nat.reduceMul, reduceCtorEq]
    refine call0 (imap_spec hIc.sto) ?_
    rintro _ wd ⟨rfl, hwd⟩
    subst wd
    simp (maxSteps := 999999) (disch := omega) only [↓sy1, sZ, readOK, Nat.reduceEqDiff, ↓reduceIte, oneOf, Nat.reduceAdd, Nat.reduceMul, reduceCtorEq]
    refine call0 (mcache_spec hIc.map.1) ?_
    rintro _ wd ⟨rfl, hwd⟩
    subst wd
    simp (maxSteps := 999999) (disch := omega) only [↓sy1, sZ, readOK, Nat.reduceEqDiff, ↓reduceIte, oneOf, Nat.reduceAdd, Nat.reduceMul, reduceCtorEq]
    refine call0 (mcommit_ok hIc.map (by rw [hnT.2.1]; omega)) ?_
    rintro _ we ⟨rfl, Ge, hxe, hme⟩
    obtain ⟨z1, z2, z3, z5, z4⟩ := commit_facts hIc.map.1.cache.oks
    have hfc := hIc.fs.commit hIc.map.1.cache.oks
    simp (maxSteps := 999999) (disch := omega) only [↓sy1, sZ, readOK, Nat.reduceEqDiff, ↓reduceIte, oneOf, Nat.reduceAdd, Nat.reduceMul, reduceCtorEq, decide_true]
    exact R_out ⟨true, Ge, rfl, ⟨cT.commit, _, _, _, _, ⟨hme, hIc.sto.ext hxe (by omega), hfc.1, hfc.2⟩, hkT, by rw [z1, hnT.1], by rw [z3, hnT.cap], by rw [hnT.2.1] at z4; omega⟩, hRc.ext hxe (by omega) (by omega) (by omega), hxxc.trans (hxe.mono (KN.of (by omega)))⟩
end Go.Proofs.YtddiikeepncakabGreat
namespace Go.Proofs.YtddiikeepncakabGreat
open Go
set_option linter.unusedSimpArgs false
open Go.RowKit Go.ChangeShapes Go.WideShapes Go.Deep Go.Joins
theorem okSlice {P : Program} {w : World} {r : Reach} {base : Nat} {t e : TypeId} {v : Value} (ht : P.underlying t = some (.slice e)) (h : Value.okWide P w r base t v) :
    v = .slice none 0 0 \/ ∃ b o len cap, v = .slice (some ⟨b, o, none⟩) len cap := by
  simp only [Value.okWide, ht, Cell.okWide] at h
  cases v with
  | slice a len cap =>
    cases a with
    | none =>
      simp only [Cell.ok, ht] at h
      cases len <;> cases cap <;> simp at h
      exact .inl rfl
    | some a =>
      simp only [Cell.ok, ht] at h
      obtain ⟨_, _, _, hs, _⟩ := h
      obtain ⟨b, o, s⟩ := a
      cases hs
      exact .inr ⟨b, o, len, cap, rfl⟩
  | _ => simp [Cell.ok, ht] at h
section
variable {H : Type} {enc : TypeId × Value -> H} {w : World} {base : Nat} {spare : Nat -> Bool} {held : Bool}
theorem u8_nat {n : Int} (h : (Lit.int .u8 n).wf = true) : ∃ k : Nat, k < 256 /\ n = (k : Int) := by
  have := bounds_u8 h
  exact ⟨n.toNat, by omega, by omega⟩
theorem argsStay {P : Program} {W W' : World} (hl : laidOutB P = true) (hb : Below W.heap.size W W') : ∀ {ts : List TypeId} {vs : List Value} {ds : List (DataW H)} {ps : List MemPlace}, (ts.all fun t => P.readableRec t && decide (t < P.types.size)) = true ->
    DataW.TrodAll enc P W 0 (fun _ => true) true ts vs ds ps -> (∀ x ∈ ps, x.block < W.heap.size) -> DataW.TrodAll enc P W' 0 (fun b => decide (b < W.heap.size)) true ts vs ds ps
  | [], _, _, _, _, h, _ => by
    obtain ⟨rfl, rfl, rfl⟩ := trodAll_nil h
    exact trodAll_mk0
  | t :: ts, _, _, _, ht, h, hlt => by
    obtain ⟨v, vs, d, ds, p, q, rfl, rfl, rfl, h0, h1⟩ := trodAll_cons h
    simp only [List.all_cons, Bool.and_eq_true, decide_eq_true_eq] at ht
    exact trodAll_cons_mk (Below.trod hl ht.1.1 ht.1.2 h0 hb (fun x hx => hlt x (by simp [hx]))) (argsStay hl hb ht.2 h1 (fun x hx => hlt x (by simp [hx])))
end
end Go.Proofs.YtddiikeepncakabGreat
namespace Go.Proofs.YtddiikeepncakabGreat
open Go
set_option linter.unusedSimpArgs false
open Go.RowKit Go.ChangeShapes Go.WideShapes Go.Deep Go.Joins
section
variable {H : Type} {enc : TypeId × Value -> H} {w : World} {base : Nat} {spare : Nat -> Bool} {held : Bool}
end
end Go.Proofs.YtddiikeepncakabGreat
namespace Go.Proofs.YtddiikeepncakabGreat
open Go
set_option linter.unusedSimpArgs false
open Go.RowKit Go.ChangeShapes Go.WideShapes Go.Deep Go.Joins
section
variable {H : Type} {enc : TypeId × Value -> H}
end
end Go.Proofs.YtddiikeepncakabGreat
namespace Go.Proofs.YtddiikeepncakabGreat
open Go
set_option linter.unusedSimpArgs false
open Go.RowKit Go.ChangeShapes Go.WideShapes Go.Deep Go.Joins
theorem deeds6_length (l : List Deed6) : (l.flatMap Deed6.cells).length = l.length * 8 := by
  induction l with
  | nil => rfl
  | cons a l ih => rw [List.flatMap_cons, List.length_append, ih, List.length_cons]; simp [Deed6.cells]; omega
def HasD6 (w : World) (v : Value) (l : List Deed6) : Prop := Has 8 w v (l.flatMap Deed6.cells) /\ ∀ x ∈ l, x.Ok
section
variable {H : Type} {enc : TypeId × Value -> H} {w : World} {base : Nat} {spare : Nat -> Bool} {held : Bool}
theorem cellsDeed6 : Tryz.prog.cellsOf 31 = 8 := by kernel_rfl
theorem cellsI6 : Tryz.prog.cellsOf 3 = 1 := by kernel_rfl
theorem cellsK6 : Tryz.prog.cellsOf 29 = 1 := by kernel_rfl
theorem cellsB6 : Tryz.prog.cellsOf 5 = 1 := by kernel_rfl
set_option maxRecDepth 100000 in
theorem deed6_fields {fuel : Nat} {cs : List Value} {x : DataW H × List MemPlace} (h : DataW.trod enc Tryz.prog w base spare held fuel 31 cs = some x) : ∃ y : Deed6, cs = y.cells /\ y.Ok := by
  obtain ⟨xs, n, _, rfl, hl, hlen, hf⟩ := DataW.trod_struct Tryz.underlying31 h
  rw [cellsDeed6] at hl
  match xs, hlen with
  | [y0, y1, y2, y3, y4, y5, y6, y7], _ =>
    match cs, hl with
    | [c0, c1, c2, c3, c4, c5, c6, c7], _ =>
      have h0 := hf 0 _ rfl
      have h1 := hf 1 _ rfl
      have h2 := hf 2 _ rfl
      have h3 := hf 3 _ rfl
      have h4 := hf 4 _ rfl
      have h5 := hf 5 _ rfl
      have h6 := hf 6 _ rfl
      have h7 := hf 7 _ rfl
      simp only [cellsI6, cellsK6, cellsB6, List.drop_zero, List.drop_succ_cons, List.take_succ_cons, List.take_zero, List.getElem?_cons_zero, List.getElem?_cons_succ] at h0 h1 h2 h3 h4 h5 h6 h7
      obtain ⟨a0, e0, _, w0⟩ := DataW.trod_int Tryz.underlying3 h0
      obtain ⟨a1, e1, _, w1⟩ := DataW.trod_int Tryz.underlying3 h1
      obtain ⟨a2, e2, _, w2⟩ := DataW.trod_int Tryz.underlying3 h2
      obtain ⟨a3, e3, _, w3⟩ := DataW.trod_int Tryz.underlying3 h3
      obtain ⟨a4, e4, _, w4⟩ := DataW.trod_int Tryz.underlying29 h4
      obtain ⟨a5, e5, _, w5⟩ := DataW.trod_int Tryz.underlying3 h5
      obtain ⟨a6, e6, _, w6⟩ := DataW.trod_int Tryz.underlying3 h6
      obtain ⟨a7, e7, _, w7⟩ := DataW.trod_int Tryz.underlying5 h7
      cases e0; cases e1; cases e2; cases e3; cases e4; cases e5; cases e6; cases e7
      obtain ⟨k7, hk7, rfl⟩ := u8_nat w7
      refine ⟨⟨a0, a1, a2, a3, a4, a5, a6, UInt8.ofNat k7⟩, ?_, bounds_i64 w1, bounds_i64 w2, bounds_i64 w3, bounds_i64 w4, bounds_i64 w5, bounds_i64 w6⟩
      rw [Deed6.cells]
      simp only [UInt8.toNat_ofNat', Nat.mod_eq_of_lt (show k7 < 2 ^ 8 by omega)]
set_option maxRecDepth 100000 in
theorem open_deeds6 {v : Value} {d : DataW H} {p : List MemPlace} {W : World} {b0 : Nat} (hv : Value.okWide Tryz.prog W .any b0 22 v) (h : DataW.Trod enc Tryz.prog W 0 (fun _ => true) true 22 v d p) :
    ∃ l : List Deed6, HasD6 W v l := by
  have hC := cellsDeed6
  obtain ⟨fuel, hf⟩ := h
  rcases okSlice Tryz.underlying22 hv with rfl | ⟨b, o, len, cap, rfl⟩
  · exact ⟨[], Has.nil 8 W, fun x hx => by simp at hx⟩
  rcases open_slice Tryz.underlying22 hf with ⟨hcs, _⟩ | ⟨a, len', cap', m, n, D, Pl, hcs, hb, hl, hm, hmm, hx, hi⟩
  · simp [Value.cells] at hcs
  simp only [Value.cells, List.cons.injEq, Value.slice.injEq, and_true, Option.some.injEq] at hcs
  obtain ⟨rfl, rfl, rfl⟩ := hcs
  simp only [if_true] at hmm
  have key : ∀ k, k <= len -> ∃ l : List Deed6, l.length = k /\ (∀ x ∈ l, x.Ok) /\ ∀ j u, (l.flatMap Deed6.cells)[j]? = some u -> W.cell? ⟨b, o + j, none⟩ = some u := by
    intro k
    induction k with
    | zero => intro _; exact ⟨[], rfl, fun x hx => by simp at hx, fun j u hj => by simp at hj⟩
    | succ k ih =>
      intro hk
      obtain ⟨l, hll, hlo, hlc⟩ := ih (by omega)
      obtain ⟨cs', hc, ht'⟩ := hi k (by omega)
      obtain ⟨x, rfl, hxo⟩ := deed6_fields ht'
      obtain ⟨_, _, hat⟩ := World.cells?_some hc
      rw [hC] at hat
      refine ⟨l ++ [x], by simp [hll], fun y hy => ?_, fun j u hj => ?_⟩
      · rcases List.mem_append.1 hy with hy | hy
        · exact hlo y hy
        · simp at hy; subst hy; exact hxo
      rw [List.flatMap_append, List.flatMap_cons, List.flatMap_nil, List.append_nil] at hj
      by_cases hjl : j < (l.flatMap Deed6.cells).length
      · rw [List.getElem?_append_left hjl] at hj; exact hlc j u hj
      · rw [List.getElem?_append_right (by omega)] at hj
        rw [deeds6_length, hll] at hj hjl
        have hj4 : j - k * 8 < 8 := by
          have := (List.getElem?_eq_some_iff.1 hj).1
          simpa [Deed6.cells] using this
        have := hat (j - k * 8) hj4
        rw [add_lit, add_lit, hj] at this
        rw [<- this]
        congr 2; omega
  obtain ⟨l, hll, hlo, hlc⟩ := key len (Nat.le_refl _)
  exact ⟨l, .inl ⟨b, o, len, cap, rfl, by rw [deeds6_length, hll], hl, hlc⟩, hlo⟩
end
end Go.Proofs.YtddiikeepncakabGreat
namespace Go.Proofs.YtddiikeepncakabGreat
open Go
set_option linter.unusedSimpArgs false
open Go.RowKit (intOf)
theorem deeds6_get : ∀ {l : List Deed6} {i : Nat} (hi : i < l.length) {j : Nat}, j < 8 -> (l.flatMap Deed6.cells)[i * 8 + j]? = l[i].cells[j]?
  | [], i, hi, _, _ => by simp at hi
  | x :: l, 0, _, j, hj => by
    rw [List.flatMap_cons, List.getElem?_append_left (by simp [Deed6.cells]; omega)]
    simp
  | x :: l, i + 1, hi, j, hj => by
    rw [List.flatMap_cons, List.getElem?_append_right (by simp [Deed6.cells]; omega), show (i + 1) * 8 + j - x.cells.length = i * 8 + j from by simp [Deed6.cells]; omega]
    simpa using deeds6_get (l := l) (i := i) (by simpa using hi) hj
theorem loadN8 {w : World} {p q : Nat} {cs : List Value} (hl : cs.length = 8) (h : ∀ j < 8, w.cell? ⟨p, q + j, none⟩ = cs[j]?) : loadN w ⟨p, q, none⟩ 0 8 = some cs := by
  match cs, hl with
  | [a, b, c, d, e, f, g, i], _ =>
    have h0 := h 0 (by omega)
    have h1 := h 1 (by omega)
    have h2 := h 2 (by omega)
    have h3 := h 3 (by omega)
    have h4 := h 4 (by omega)
    have h5 := h 5 (by omega)
    have h6 := h 6 (by omega)
    have h7 := h 7 (by omega)
    simp at h0 h1 h2 h3 h4 h5 h6 h7
    simp [loadN, add_lit, h0, h1, h2, h3, h4, h5, h6, h7]
theorem HasD6.at {w : World} {v : Value} {l : List Deed6} (h : Has 8 w v (l.flatMap Deed6.cells)) {i : Nat} (hi : i < l.length) : ∃ b o, iaF 8 v (.int .i64 i) = some (.pointer (some ⟨b, o, none⟩)) /\ loadN w ⟨b, o, none⟩ 0 8 = some l[i].cells := by
  obtain ⟨b, o, h1, h2, _⟩ := h.idxk (i := i) (by rw [deeds6_length, Nat.mul_div_cancel _ (by omega)]; exact hi)
  refine ⟨b, o, h1, loadN8 (by simp [Deed6.cells]) (fun j hj => ?_)⟩
  obtain ⟨u, hu, hc⟩ := h2 j hj
  rw [hc, <- hu, deeds6_get hi hj]
theorem HasD6.lenD {w : World} {v : Value} {l : List Deed6} (h : HasD6 w v l) (w' : World) : lenF w' 0 v = some (.int .i64 l.length) := by
  have := h.1.lenk (by omega) w'
  rw [deeds6_length, Nat.mul_div_cancel _ (by omega)] at this
  exact this
section
variable {ρ : Nat} {K : Nat -> Prop} {G G' : Gh} {w w' : World} {b : Nat} {x : Deed6}
end
set_option maxRecDepth 20000 in
set_option maxHeartbeats 16000000 in
theorem inodeGives_walk {w : World} {lv : Value} {l : List Deed6} (hv : HasD6 w lv l) (i : Int) :
    Calls Tryz.prog 3 #[lv, .int .i64 i] w (Ret fun v w' => v = .bool true /\ Grow w w') := by
  have hlenL : ∀ w', lenF w' 0 lv = some (.int .i64 l.length) := fun w' => hv.lenD w'
  apply enter3
  apply R_in
  simp (maxSteps := 999999) (disch := omega) only [↓sy1, sZ, readOK, Nat.reduceEqDiff, ↓reduceIte, oneOf, Nat.reduceAdd, Nat.reduceMul, reduceCtorEq, F3]
  refine call0 (opened_spec (pages := 90) (by omega) (by omega)) ?_
  rintro _ w1 ⟨s, r, m, p, lq, c, G1, rfl, hf, ⟨hR, _⟩, hx1⟩
  obtain ⟨h1, hN, hcap, hdr, hops⟩ := hf
  rw [show upto1 (3 + 16 / 8) 90 = upto1 5 90 from rfl] at h1
  simp (maxSteps := 999999) (disch := omega) only [↓sy1, sZ, readOK, Nat.reduceEqDiff, ↓reduceIte, oneOf, Nat.reduceAdd, Nat.reduceMul, reduceCtorEq]
  refine call0 (live6_spec w1) ?_
  rintro _ w2 ⟨rfl, hg2⟩
  have hx2 : Ext (fun _ => False) G1 w1 G1 w2 := .grow hg2
  have h2 := h1.ext hx2 id id id
  have hR2 := hR.ext hx2 id id id
  have hxx2 : Ext KN G00 w G1 w2 := hx1.trans (hx2.mono fE)
  have hops2 : c.D.ops.length <= 500 := by omega
  have hI2 : (upto1 1 16).length = 16 := upto1_length _ _
  generalize upto1 5 90 = P2 at h2
  generalize upto1 1 16 = I2 at h2 hI2
  generalize (fun _ : Nat => (none : Option Opn)) = F2 at h2
  generalize (fun _ : Nat => ([] : List UInt8)) = B2 at h2
  clear h1 hR hx1 hx2 hdr hops
  simp (maxSteps := 999999) (disch := omega) only [↓sy1, sZ, readOK, Nat.reduceEqDiff, ↓reduceIte, oneOf, Nat.reduceAdd, Nat.reduceMul, reduceCtorEq, dz]
  refine loop_rule (fun e w' => ∃ (k : Nat) (G' : Gh) (c' : Csh) (P I : List Bool) (F : Nat -> Option Opn) (B : Nat -> List UInt8), k <= 20 /\ e 8 = .int .i64 k /\ e 0 = lv /\ e 1 = .int .i64 i /\ e 5 = .pointer (some ⟨s, 0, none⟩) /\ e 6 = .pointer (some ⟨r, 0, none⟩) /\
      Ino G' 2 7 w' s m p lq 0 c' P I F B /\ I.length = 16 /\ RS G' w' r 16 /\ c'.N = 90 /\ c'.cap = 100 /\ c'.D.ops.length <= 500 + 206 * k /\ Ext KN G00 w G' w') (fun e _ => 20 - (intOf (e 8)).toNat)
    ⟨0, G1, c, P2, I2, F2, B2, by omega, by simp [upd, updO, ev], by simp [upd, updO, ev], by simp [upd, updO, ev], by simp [upd, updO, ev], by simp [upd, updO, ev], h2, hI2, hR2, hN, hcap, by omega, hxx2⟩ ?_
  clear h2 hI2 hR2 hN hcap hops2 hxx2
  rintro e w7 ⟨k, G7, c7, P7, I7, F7, B7, hk, e8, e0, e1, e5, e6, h7, hI7, hR7, hN7, hcap7, hops7, hx7⟩
  have hgw7 : Grow w w7 := hx7.toGrow (by simp)
  by_cases hgo : k < l.length /\ k < 20
  · obtain ⟨hgo1, hgo2⟩ := hgo
    obtain ⟨b8, o8, hia8, hld8⟩ := HasD6.at (hv.1.grow hgw7) hgo1
    have hyo := hv.2 l[k] (List.getElem_mem hgo1)
    simp (maxSteps := 999999) (disch := omega) only [↓sy1, sZ, readOK, Nat.reduceEqDiff, ↓reduceIte, oneOf, Nat.reduceAdd, Nat.reduceMul, reduceCtorEq, F3_L0, e8, e0, e1, e5, e6, hlenL, Int.ofNat_lt, hgo1, show ((k : Int) < 20) from by omega, decide_true, hia8, hld8]
    refine call0 (much_spec hR7 hyo) ?_
    rintro _ w10 ⟨t, rfl, hg10⟩
    have hx10 : Ext (fun _ => False) G7 w7 G7 w10 := .grow hg10
    have h10 := h7.ext hx10 id id id
    have hR10 := hR7.ext hx10 id id id
    have hxx10 := hx7.trans (hx10.mono fE)
    have hld10 : loadN w10 ⟨b8, o8, none⟩ 0 8 = some l[k].cells := by
      obtain ⟨b9, o9, hia9, hld9⟩ := HasD6.at ((hv.1.grow hgw7).grow hg10) hgo1
      rw [hia8] at hia9
      cases hia9
      exact hld9
    cases t with
    | true =>
      simp (maxSteps := 999999) (disch := omega) only [↓sy1, sZ, readOK, Nat.reduceEqDiff, ↓reduceIte, oneOf, Nat.reduceAdd, Nat.reduceMul, reduceCtorEq, e8, e0, e1, e5, e6]
      exact R_out ⟨⟨k + 1, G7, c7, P7, I7, F7, B7, by omega, rfl, h10, hI7, hR10, hN7, hcap7, by omega, hxx10⟩, by simp only [intOf]; omega⟩
    | false =>
      simp (maxSteps := 999999) (disch := omega) only [↓sy1, sZ, readOK, Nat.reduceEqDiff, ↓reduceIte, oneOf, Nat.reduceAdd, Nat.reduceMul, reduceCtorEq, e8, e0, e1, e5, e6, hia8, hld10]
      refine call0 (do6_spec h10 hI7 hR10 (by omega) hyo) ?_
      rintro _ w11 ⟨t, G11, rfl, ⟨c11, P11, I11, F11, B11, h11, hI11, hN11, hcap11, hops11⟩, hR11, hx11⟩
      simp (maxSteps := 999999) (disch := omega) only [↓sy1, sZ, readOK, Nat.reduceEqDiff, ↓reduceIte, oneOf, Nat.reduceAdd, Nat.reduceMul, reduceCtorEq, e8, e0, e1, e5, e6]
      exact R_out ⟨⟨k + 1, G11, c11, P11, I11, F11, B11, by omega, rfl, h11, hI11, hR11, by rw [hN11, hN7], by rw [hcap11, hcap7], by omega, hxx10.trans hx11⟩, by simp only [intOf]; omega⟩
  have hcnd : (k < l.length /\ ¬((k : Int) < 20)) \/ ¬(k < l.length) := by omega
  clear hgo
  have hP7 : P7.length < 5000 := by rw [h7.fs.alc.plen, hN7]; omega
  have hgt := iget_spec h7 (i := i)
  have hnumo : ∀ j o, i = ((j : Nat) : Int) -> F7 j = some o -> lookC F7 16 i = 0 /\ lookO F7 16 i = o /\ I7[j]? = some true /\ 1 <= j /\ j < 16 /\ o.size <= 70656 := by
    intro j o hij hFj
    subst hij
    have hnum := h7.fs.own.num j o hFj
    have hj16 : j < 16 := by
      have := (List.getElem?_eq_some_iff.1 hnum.2.2).1
      omega
    have hlk := lookC_ok (k := 16) (F := F7) hnum.2.1 hj16 hFj
    exact ⟨hlk.1, hlk.2, hnum.2.2, hnum.2.1, hj16, (h7.blen hFj).2.1⟩
  have hDrop : ∀ {G : Gh} {w : World} {v : Value}, DropR G 2 7 w s m p lq 0 c7 P7 I7 F7 B7 i v -> ∃ (code : Int) (c' : Csh) (P' I' : List Bool) (F' : Nat -> Option Opn) (B' : Nat -> List UInt8), v = .int .i64 code /\ Ino G 2 7 w s m p lq 0 c' P' I' F' B' /\ c'.N = 90 /\ I'.length = 16 /\
        ((lookC F7 16 i ≠ 0 /\ code = lookC F7 16 i /\ P' = P7 /\ I' = I7) \/ (lookC F7 16 i = 0 /\ code = 7) \/ (lookC F7 16 i = 0 /\ code = 0 /\ freeN P' = freeN P7 + needN (lookO F7 16 i).size /\ freeN I' = freeN I7 + 1 /\ lookC F' 16 i = 4 /\ (lookO F7 16 i).size <= 70656)) := by
    intro G w v hD
    rw [DropR, hI7] at hD
    rcases hD with ⟨hne, rfl, h'⟩ | ⟨he, j, o, hij, hFj, hT⟩
    · exact ⟨_, c7, P7, I7, F7, B7, rfl, h', hN7, hI7, .inl ⟨hne, rfl, rfl, rfl⟩⟩
    · rcases hT with ⟨rfl, c', P', I', F', B', h', hnr, hI', ⟨rfl, rfl, rfl, hfr, _⟩, _⟩ | ⟨rfl, ⟨c', P', I', F', B', h', hnr, hI'⟩, _, _⟩
      · obtain ⟨n1, n2, n3, n4, n5, n6⟩ := hnumo j o hij hFj
        refine ⟨_, _, _, _, _, _, rfl, h', by rw [hnr.1, hN7], hI', .inr (.inr ⟨he, rfl, ?_, freeN_off n3, ?_, ?_⟩)⟩
        · rw [n2]; exact hfr
        · unfold lookC
          rw [if_neg (by omega), hij, Int.toNat_natCast, upF_same]; rfl
        · rw [n2]; exact n6
      · exact ⟨7, c', P', I', F', B', rfl, h', by rw [hnr.1, hN7], hI', .inr (.inl ⟨he, rfl⟩)⟩
  rw [hI7] at hgt
  generalize hlo : lookO F7 16 i = o at hgt hDrop
  generalize hlc : lookC F7 16 i = cd at hgt hDrop
  clear hnumo
  rcases hcnd with ⟨hg1, hg2⟩ | hg1
  rotate_left
  have hg2 := hg1
  all_goals
    simp (maxSteps := 999999) (disch := omega) only [↓sy1, sZ, readOK, Nat.reduceEqDiff, ↓reduceIte, oneOf, Nat.reduceAdd, Nat.reduceMul, reduceCtorEq, F3_L0, e8, e0, e1, e5, e6, hlenL, Int.ofNat_lt, hg1, hg2, dy]
    refine call0 hgt ?_
    rintro _ w8 ⟨rfl, G8, hx8, h8⟩
    obtain ⟨w9, G9, st9, hb9, ho9, hx9⟩ := store15 (G := G8) (w := w8) (take15_len o) (take15_cell o)
    have h9 := h8.ext hx9 id id id
    have hxx9 : Ext KN G00 w G9 w9 := (hx7.trans (hx8.mono (KN.of (by omega)))).trans (hx9.mono fE)
    simp (maxSteps := 999999) (disch := omega) only [↓sy1, sZ, readOK, Nat.reduceEqDiff, ↓reduceIte, oneOf, Nat.reduceAdd, Nat.reduceMul, reduceCtorEq, st9, e1, e5]
    refine call0 (imap_spec h9.sto) ?_
    rintro _ wx ⟨rfl, hwx⟩
    subst wx
    simp (maxSteps := 999999) (disch := omega) only [↓sy1, sZ, readOK, Nat.reduceEqDiff, ↓reduceIte, oneOf, Nat.reduceAdd, Nat.reduceMul, reduceCtorEq, e1, e5]
    refine call0 (free_spec h9.map hP7) ?_
    rintro _ w10 ⟨rfl, G10, hx10, hm10⟩
    have h10 : Ino G10 2 7 w10 s m p lq 0 c7 P7 I7 F7 B7 := ⟨hm10, h9.sto.ext hx10 (by omega), h9.fs, h9.old⟩
    have hb10 := hx10.heap hb9 (by rw [ho9]; omega)
    have hlt10 : w8.heap.size < w10.heap.size := (Array.getElem?_eq_some_iff.1 hb10).1
    have ho10 : G10.own w8.heap.size = 0 := by rw [hx10.own _ (Array.getElem?_eq_some_iff.1 hb9).1]; exact ho9
    have hxx10 : Ext KN G00 w G10 w10 := hxx9.trans (hx10.mono (KN.of (by omega)))
    simp (maxSteps := 999999) (disch := omega) only [↓sy1, sZ, readOK, Nat.reduceEqDiff, ↓reduceIte, oneOf, Nat.reduceAdd, Nat.reduceMul, reduceCtorEq, e1, e5]
    refine call0 (idrop_spec h10 (i := i)) ?_
    rintro v11 w11 ⟨G11, hx11, hD⟩
    have hb11 := hx11.heap hb10 (by rw [ho10]; unfold KW; omega)
    have hxx11 : Ext KN G00 w G11 w11 := hxx10.trans (hx11.mono KW.kn)
    obtain ⟨code, c', P', I', F', B', rfl, h11, hN', hI', hsum⟩ := hDrop hD
    clear hD
    have hP' : P'.length < 5000 := by rw [h11.fs.alc.plen, hN']; omega
    simp (maxSteps := 999999) (disch := omega) only [↓sy1, sZ, readOK, Nat.reduceEqDiff, ↓reduceIte, oneOf, Nat.reduceAdd, Nat.reduceMul, reduceCtorEq, e1, e5]
    refine call0 (imap_spec h11.sto) ?_
    rintro _ wx ⟨rfl, hwx⟩
    subst wx
    simp (maxSteps := 999999) (disch := omega) only [↓sy1, sZ, readOK, Nat.reduceEqDiff, ↓reduceIte, oneOf, Nat.reduceAdd, Nat.reduceMul, reduceCtorEq, e1, e5]
    refine call0 (free_spec h11.map hP') ?_
    rintro _ w12 ⟨rfl, G12, hx12, hm12⟩
    have h12 : Ino G12 2 7 w12 s m p lq 0 c' P' I' F' B' := ⟨hm12, h11.sto.ext hx12 (by omega), h11.fs, h11.old⟩
    have ho11 : G11.own w8.heap.size = 0 := by rw [hx11.own _ hlt10]; exact ho10
    have hb12 := hx12.heap hb11 (by rw [ho11]; omega)
    have ho12 : G12.own w8.heap.size = 0 := by rw [hx12.own _ (Array.getElem?_eq_some_iff.1 hb11).1]; exact ho11
    have hxx12 : Ext KN G00 w G12 w12 := hxx11.trans (hx12.mono (KN.of (by omega)))
    by_cases hlk : cd = 0
    · have hgt2 := iget_spec h12 (i := i)
      rw [hI'] at hgt2
      generalize hl2 : lookO F' 16 i = o2 at hgt2
      have hsum2 : code = 7 \/ (code = 0 /\ freeN P' = freeN P7 + needN o.size /\ freeN I' = freeN I7 + 1 /\ lookC F' 16 i = 4 /\ o.size <= 70656) := by
        rcases hsum with ⟨hh, _⟩ | ⟨_, hh⟩ | ⟨_, hh⟩
        · exact absurd hlk hh
        · exact .inl hh
        · exact .inr hh
      simp (maxSteps := 999999) (disch := omega) only [↓sy1, sZ, readOK, Nat.reduceEqDiff, ↓reduceIte, oneOf, Nat.reduceAdd, Nat.reduceMul, reduceCtorEq, e1, e5, hlk, dz]
      refine call0 hgt2 ?_
      rintro _ w13 ⟨rfl, G13, hx13, h13⟩
      have hb13 := hx13.heap hb12 (by rw [ho12]; omega)
      obtain ⟨w14, G14, st14, hb14, ho14, hx14⟩ := store15 (G := G13) (w := w13) (take15_len o2) (take15_cell o2)
      have hb14' := hx14.heap hb13 id
      have hxx14 : Ext KN G00 w G14 w14 := (hxx12.trans (hx13.mono (KN.of (by omega)))).trans (hx14.mono fE)
      have hgf : Grow w w14 := hxx14.toGrow (by simp)
      have hsz : w14.cell? ⟨w8.heap.size, 3, none⟩ = some (.int .i64 o.size) := by
        rw [cell_block hb14']
        have := take15_at (o) (j := 3) (by omega)
        rw [show o.cell 3 = o.size from rfl] at this
        simpa using this
      rcases hsum2 with rfl | ⟨rfl, hfp, hfi, hl4, hs7⟩
      · simp (maxSteps := 999999) (disch := omega) only [↓sy1, sZ, readOK, Nat.reduceEqDiff, ↓reduceIte, oneOf, Nat.reduceAdd, Nat.reduceMul, reduceCtorEq, e1, e5, st14, decide_true]
        exact R_out hgf
      · have hb1 := freeN_le P'
        have hb2 := freeN_le I'
        have hnc : needC (o.size : Nat) = (needN o.size : Nat) := by
          unfold needC
          rw [if_neg (by omega), Int.toNat_natCast]
        simp (maxSteps := 999999) (disch := omega) only [↓sy1, sZ, readOK, Nat.reduceEqDiff, ↓reduceIte, oneOf, Nat.reduceAdd, Nat.reduceMul, reduceCtorEq, e1, e5, st14, hsz, Int.reduceEq, decide_false, decide_true]
        refine call0 (need_spec (n := (o.size : Nat))) ?_
        rintro _ w15 ⟨rfl, rfl⟩
        rw [hnc, hl4, show ((freeN P' : Nat) : Int) = (freeN P7 : Nat) + (needN o.size : Nat) from by omega, show ((freeN I' : Nat) : Int) = (freeN I7 : Nat) + 1 from by omega]
        simp (maxSteps := 999999) (disch := omega) only [↓sy1, sZ, readOK, Nat.reduceEqDiff, ↓reduceIte, oneOf, Nat.reduceAdd, Nat.reduceMul, reduceCtorEq, decide_true]
        exact R_out hgf
    · have hsum2 : code = cd /\ P' = P7 /\ I' = I7 := by
        rcases hsum with ⟨_, hh⟩ | ⟨hh, _⟩ | ⟨hh, _⟩
        · exact hh
        · exact absurd hh hlk
        · exact absurd hh hlk
      obtain ⟨rfl, rfl, rfl⟩ := hsum2
      simp (maxSteps := 999999) (disch := omega) only [↓sy1, sZ, readOK, Nat.reduceEqDiff, ↓reduceIte, oneOf, Nat.reduceAdd, Nat.reduceMul, reduceCtorEq, e1, e5, hlk, decide_true, not_false_eq_true, decide_false]
      exact R_out (hxx12.toGrow (by simp))
end Go.Proofs.YtddiikeepncakabGreat
