/- Texts of one claim, put together in their order: what each proves stands ahead of it. -/
import Derived.Test.YtienelpepioggaaGreatMf
import Derived.Test.YtienelpepioggaaGreatMc
import Derived.Carry
import Derived.Deep.Slices
import Derived.Lib.SmallJoins
import Derived.OpenShut
import Derived.Test.YtienelpepioggaaGreatMd
/- Files of many sizes have their own bytes, and gone they give all back. -/
namespace Go.Proofs.YtienelpepioggaaGreat
open Go
set_option linter.unusedSimpArgs false
open Go.RowKit (intOf)
/-- Numbers of sixteen bits, in memory. -/
def ws (l : List Nat) : List Value := l.map fun n => .int .u16 ((n : Nat) : Int)
def HasW (w : World) (v : Value) (l : List Nat) : Prop := Has 1 w v (ws l) ∧ ∀ n ∈ l, n < 65536
theorem HasW.lenW {w : World} {v : Value} {l : List Nat} (h : HasW w v l) (w2 : World) : lenF w2 0 v = some (.int .i64 l.length) := by rw [h.1.len]; simp [ws]
theorem HasW.getW {w : World} {v : Value} {l : List Nat} (h : HasW w v l) {i : Nat} (hi : i < l.length) : ∃ a, iaF 1 v (.int .i64 i) = some (.pointer (some a)) ∧ w.cell? a = some (.int .u16 ((l[i] : Nat) : Int)) := by
  obtain ⟨a, h1, h2, _⟩ := h.1.idx (i := i) (by simp [ws]; exact hi)
  refine ⟨a, h1, ?_⟩
  rw [h2]; simp [ws]
theorem HasW.grow {w w' : World} {v : Value} {l : List Nat} (h : HasW w v l) (hg : Grow w w') : HasW w' v l := ⟨h.1.grow hg, h.2⟩
/-- A file's bytes. -/
def datT (n len : Nat) : List UInt8 := (List.range len).map fun j => UInt8.ofNat (n + j % 250)
theorem datT_length (n len : Nat) : (datT n len).length = len := by simp [datT]
theorem datT_at {n len j : Nat} (h : j < len) : (datT n len)[j]? = some (UInt8.ofNat (n + j % 250)) := by simp [datT, h]
/-- The numbers of so many files. -/
def numT (k : Nat) : List Int := (List.range k).map fun j => ((j + 1 : Nat) : Int)
theorem numT_length (k : Nat) : (numT k).length = k := by simp [numT]
theorem numT_succ (k : Nat) : numT (k + 1) = numT k ++ [((k + 1 : Nat) : Int)] := by simp [numT, List.range_succ]
theorem numT_at {k j : Nat} (h : j < (numT k).length) : (numT k)[j] = ((j + 1 : Nat) : Int) := by simp [numT]
/-- A file's size. -/
def szT (us : List Nat) (j : Nat) : Nat := us.getD j 0 % 9000
theorem szT_lt (us : List Nat) (j : Nat) : szT us j < 9000 := by unfold szT; omega
theorem szT_at {us : List Nat} {j : Nat} (h : j < us.length) : us[j] % 9000 = szT us j := by
  unfold szT
  rw [List.getD_eq_getElem?_getD, List.getElem?_eq_getElem h]; rfl
/-- How many pages so many files have. -/
def needT (us : List Nat) : Nat → Nat
  | 0 => 0
  | k + 1 => needT us k + needN (szT us k)
theorem needN_19 {n : Nat} (h : n < 9000) : needN n ≤ 19 := by unfold needN pagesN; split <;> omega
theorem needT_le (us : List Nat) : ∀ k, needT us k ≤ 19 * k
  | 0 => Nat.le_refl _
  | k + 1 => by
    have h1 := needT_le us k
    have h2 := needN_19 (szT_lt us k)
    unfold needT; omega
theorem needT_pred (us : List Nat) {k : Nat} (h : 0 < k) : needT us k = needT us (k - 1) + needN (szT us (k - 1)) := by
  obtain ⟨j, rfl⟩ : ∃ j, k = j + 1 := ⟨k - 1, by omega⟩
  rfl
section rules
variable {k : Kont} {e : Env} {w : World} {l : List GOp} {d : Option Nat}
/-- A number is appended to a row that owner ρ has. -/
theorem appN_rule {ρ B n : Nat} {G : Gh} {x y : Operand} {v : Value} {ls : List Int} {z : Int} {ty : TypeId} (hx : ev e x = v) (hy : HasI w (ev e y) [z]) (ho : w.ownsRow B 3 1 v n (ints ls)) (hr : OwnR ρ G v) (hn : n + 1 ≤ 1000000) (hB : B ≤ w.heap.size)
    (hh : ∀ v' w', w'.ownsRow B 3 1 v' (n + 1) (ints (ls ++ [z])) → OwnR ρ (G.upto w.heap.size (fun _ => ρ) (fun _ => 0)) v' → Ext (fun c => c = ρ) G w (G.upto w.heap.size (fun _ => ρ) (fun _ => 0)) w' → R (symOps Tryz.prog l k (updO e d v') w')) :
    R (symOps Tryz.prog (⟨d, .hard (H (.call { callee := .builtin .append, args := #[x, y], argTypes := #[42, 42] }) ty), none⟩ :: l) k e w) := by
  refine app_own2 elemI hx rfl ho hy (m := 1) (by simp [ints]) (by simp [ints, isCell]) (by omega) (by omega) hB ?_
  intro v' w' ho' hg' hb'
  have hka := Keep.grown hg'
  have hbb : ints ls ++ ints [z] = ints (ls ++ [z]) := by simp [ints]
  rw [hbb] at ho'
  refine hh v' w' ho' (fun b hb => ?_) (Ext.app hka hr)
  by_cases hlt : b < w.heap.size
  · have hrow : v.ownBlock = some b := by
      rcases hb' with h1 | h1
      · rw [← h1]; exact hb
      · rw [h1] at hb
        have := Option.some.inj hb
        omega
    have := hr b hrow
    simp [Gh.upto, hlt]; exact this
  · exact upto_own (by omega)
end rules
/-- A byte of a sum. -/
theorem byteT (n : Nat) : ((n : Nat) : Int) % 256 = ((UInt8.ofNat n).toNat : Int) := by rw [UInt8.toNat_ofNat']; omega
/-- So many files. -/
def FilesT (us : List Nat) (F : Nat → Option Opn) (B : Nat → List UInt8) (a b : Nat) : Prop := ∀ j, a ≤ j → j < b → ∃ o, F (j + 1) = some o ∧ o.size = szT us j ∧ B (j + 1) = datT (j + 1) (szT us j)
set_option maxRecDepth 20000 in
set_option maxHeartbeats 16000000 in
theorem topFiles_walk {w : World} {uv : Value} {us : List Nat} (hu : HasW w uv us) (t : Bool) :
    Calls Tryz.prog 3 #[uv, .bool t] w (Ret fun v w' => v = .bool true ∧ Grow w w') := by
  have hlenU : ∀ w', lenF w' 0 uv = some (.int .i64 us.length) := fun w' => hu.lenW w'
  have hmay : mayA 600 ((32 : Nat) : Int) := by unfold mayA; omega
  apply enter3
  apply R_in
  simp (maxSteps := 1000000) (disch := omega) only [↓sy1, sy2, sy3, readOK, sy5, sy6, Nat.reduceEqDiff, ↓reduceIte, sy7, sy8, sy9, sya, oneOf, syb, syc, Nat.reduceAdd, Nat.reduceMul, syd, sye, syf, syg, syh, reduceCtorEq, F3]
  refine call0 (new_spec G00 1 (n := 600 + 101) (by omega) (by omega)) ?_
  rintro _ w1 ⟨p0, G1, rfl, hp1, hd1, hx1⟩
  simp (maxSteps := 1000000) (disch := omega) only [↓sy1, sy2, sy3, readOK, sy5, sy6, Nat.reduceEqDiff, ↓reduceIte, sy7, sy8, sy9, sya, oneOf, syb, syc, Nat.reduceAdd, Nat.reduceMul, syd, sye, syf, syg, syh, reduceCtorEq]
  refine call0 (open_spec (size := 100) 2 (by omega) hd1 (by omega) (by rw [zero_len]; omega) (.inl (zero_image (by omega)))) ?_
  rintro _ w2 ⟨lq, G2, rfl, hq2, hl2, hx2⟩
  simp (maxSteps := 1000000) (disch := omega) only [↓sy1, sy2, sy3, readOK, sy5, sy6, Nat.reduceEqDiff, ↓reduceIte, sy7, sy8, sy9, sya, oneOf, syb, syc, Nat.reduceAdd, Nat.reduceMul, syd, sye, syf, syg, syh, reduceCtorEq]
  refine call0 (cnew_spec (most := 8) 7 (by omega) (by omega) hl2 (zero_flat _) (zero_calm (by omega)) (by omega) (by omega)) ?_
  rintro _ w3 ⟨p, G3, rfl, hp3, hc3, hx3⟩
  simp (maxSteps := 1000000) (disch := omega) only [↓sy1, sy2, sy3, readOK, sy5, sy6, Nat.reduceEqDiff, ↓reduceIte, sy7, sy8, sy9, sya, oneOf, syb, syc, Nat.reduceAdd, Nat.reduceMul, syd, sye, syf, syg, syh, reduceCtorEq]
  have hN := icT_N 600 8
  have hdr := icT_dirty 600 8
  have hcap := icT_cap 600 8
  have hops := icT_ops 600 8
  have hc3' : CacheS G3 2 7 w3 p lq 0 (icT 600 8) := hc3.s
  generalize icT 600 8 = c0 at hN hdr hcap hops hc3'
  refine call0 (make_ok hc3' (by omega) (k := 32) (by rw [hN]; exact hmay) (by rw [hdr, hcap]; simp)) ?_
  rintro _ w4 ⟨m, G4, c4, rfl, hm4, h4, hst4, hx4⟩
  obtain ⟨t1, t2, t3, t4, t5⟩ := hst4
  rw [← t1] at h4
  simp (maxSteps := 1000000) (disch := omega) only [↓sy1, sy2, sy3, readOK, sy5, sy6, Nat.reduceEqDiff, ↓reduceIte, sy7, sy8, sy9, sya, oneOf, syb, syc, Nat.reduceAdd, Nat.reduceMul, syd, sye, syf, syg, syh, reduceCtorEq]
  refine call0 (inew_spec G4 w4 m) ?_
  rintro _ w5 ⟨s, G5, rfl, hs5, hso5, hx5⟩
  have h5 := h4.ext hx5 id id id
  simp (maxSteps := 1000000) (disch := omega) only [↓sy1, sy2, sy3, readOK, sy5, sy6, Nat.reduceEqDiff, ↓reduceIte, sy7, sy8, sy9, sya, oneOf, syb, syc, Nat.reduceAdd, Nat.reduceMul, syd, sye, syf, syg, syh, reduceCtorEq, decide_true, not_true_eq_false, decide_false]
  refine call0 (mcommit_ok h5 (by rw [t2]; omega)) ?_
  rintro _ w6 ⟨rfl, G6, hx6, h6⟩
  obtain ⟨q1, q2, q3, q4, q5⟩ := commit_facts h5.1.cache.oks
  have hso6 := hso5.ext hx6 (by omega)
  have hfs := (fsT_none h5.2).commit h5.1.cache.oks
  have hN6 : c4.commit.N = 600 := by rw [q1, t1, hN]
  have hcap6 : c4.commit.cap = 100 := by rw [q3, t4, hcap]
  have hops6 : c4.commit.D.ops.length ≤ 206 := by rw [t2, hops] at q5; omega
  have hN4 : c4.N = 600 := by rw [t1, hN]
  rw [hN4] at h6 hfs
  have hi6 : Ino G6 2 7 w6 s m p lq 0 c4.commit (upto1 7 600) (upto1 1 32) (fun _ => none) (fun _ => []) := ⟨h6, hso6, hfs.1, hfs.2⟩
  have hxx6 : Ext KT G00 w G6 w6 := (((((hx1.mono (fun _ h => h.elim)).trans (hx2.mono (fun _ h => h.elim))).trans (hx3.mono (fun _ h => h.elim))).trans (hx4.mono (KT.of (by omega)))).trans (hx5.mono (fun _ h => h.elim))).trans (hx6.mono (KT.of (by omega)))
  generalize c4.commit = c6 at hi6 hN6 hcap6 hops6 q2
  clear hx1 hx2 hx3 hx4 hx5 hx6 h4 h5 h6 hso5 hso6 hfs hc3 hc3' hl2 hd1 q1 q3 q4 q5 t1 t2 t3 t4 t5 hN4 hN hdr hcap hops
  simp (maxSteps := 1000000) (disch := omega) only [↓sy1, sy2, sy3, readOK, sy5, sy6, Nat.reduceEqDiff, ↓reduceIte, sy7, sy8, sy9, sya, oneOf, syb, syc, Nat.reduceAdd, Nat.reduceMul, syd, sye, syf, syg, syh, reduceCtorEq, decide_true, not_true_eq_false, decide_false]
  refine call0 (free_spec hi6.map (by rw [upto1_length]; omega)) ?_
  rintro _ w7 ⟨rfl, G7, hx7, hm7⟩
  rw [freeN_upto (by omega), freeN_upto (by omega)]
  have hi7 : Ino G7 2 7 w7 s m p lq 0 c6 (upto1 7 600) (upto1 1 32) (fun _ => none) (fun _ => []) := ⟨hm7, hi6.sto.ext hx7 (by omega), hi6.fs, hi6.old⟩
  have hxx7 : Ext KT G00 w G7 w7 := hxx6.trans (hx7.mono (KT.of (by omega)))
  have hf7 : freeN (upto1 7 600) = 593 := freeN_upto (by omega)
  generalize upto1 7 600 = P7 at hi7 hf7
  clear hi6 hx7 hm7 hxx6
  simp (maxSteps := 1000000) (disch := omega) only [↓sy1, sy2, sy3, readOK, sy5, sy6, Nat.reduceEqDiff, ↓reduceIte, sy7, sy8, sy9, sya, oneOf, syb, syc, Nat.reduceAdd, Nat.reduceMul, syd, sye, syf, syg, syh, reduceCtorEq]
  refine loop_rule (fun e w' => ∃ (k : Nat) (G : Gh) (c : Csh) (P : List Bool) (F : Nat → Option Opn) (B : Nat → List UInt8) (av : Value), k ≤ 15 ∧ k ≤ us.length ∧ e 18 = .int .i64 k ∧ e 0 = uv ∧ e 1 = .bool t ∧ e 9 = .pointer (some ⟨p, 0, none⟩) ∧ e 11 = .pointer (some ⟨m, 0, none⟩) ∧ e 13 = .pointer (some ⟨s, 0, none⟩) ∧ e 15 = .int .i64 593 ∧ e 16 = .int .i64 31 ∧ e 17 = av ∧
      Ino G 2 7 w' s m p lq 0 c P (upto1 (1 + k) 32) F B ∧ c.N = 600 ∧ c.cap = 100 ∧ c.dirty = [] ∧ c.D.ops.length ≤ 206 + 206 * k ∧ FilesT us F B 0 k ∧ freeN P + needT us k = 593 ∧ w'.ownsRow 0 3 1 av k (ints (numT k)) ∧ OwnR 10 G av ∧ Ext KT G00 w G w') (fun e _ => 15 - (intOf (e 18)).toNat)
    ⟨0, G7, c6, P7, _, _, .slice none 0 0, by omega, by omega, by simp [upd, updO, ev], by simp [upd, updO, ev], by simp [upd, updO, ev], by simp [upd, updO, ev], by simp [upd, updO, ev], by simp [upd, updO, ev], by simp [upd, updO, ev], by simp [upd, updO, ev], by simp [upd, updO, ev], hi7, hN6, hcap6, q2, by omega, fun j _ h => absurd h (by omega), by simp [needT, hf7], ⟨by simp [numT, ints], .inl ⟨rfl, rfl⟩⟩, fun b hb => (by cases hb), hxx7⟩ ?_
  clear hi7 hN6 hcap6 q2 hops6 hxx7 hf7
  rintro e w8 ⟨k, G8, c8, P8, F8, B8, av, hk, hku, e18, e0, e1, e9, e11, e13, e15, e16, e17, h8, hN8, hcap8, hdr8, hops8, hF8, hfr8, ha8, har8, hx8⟩
  have hg8 : Grow w w8 := hx8.toGrow (by simp)
  by_cases hgo : k < us.length ∧ k < 15
  · obtain ⟨hgo1, hgo2⟩ := hgo
    have hfI : firstN (upto1 (1 + k) 32) = 1 + k := firstN_upto (by omega)
    simp (maxSteps := 1000000) (disch := omega) only [↓sy1, sy2, sy3, readOK, sy5, sy6, Nat.reduceEqDiff, ↓reduceIte, sy7, sy8, sy9, sya, oneOf, syb, syc, Nat.reduceAdd, Nat.reduceMul, syd, sye, syf, syg, syh, reduceCtorEq, F3_L1, e18, e0, e1, e9, e11, e13, e15, e16, e17, hlenU, Int.ofNat_lt, hgo1, show ((k : Int) < 15) from by omega, decide_true]
    refine call0 (mkT_ok h8 (by rw [hdr8, hcap8]; simp) (by rw [hfI, upto1_length]; omega) (kd := 1) (md := 420) (by omega) (by omega)) ?_
    rintro _ w9 ⟨rfl, G9, c9, hx9, h9, hn9, hdl9⟩
    rw [hfI, show (upto1 (1 + k) 32).set (1 + k) true = upto1 (1 + k + 1) 32 from upto1_set (by omega)] at h9
    rw [hfI]
    have ha9 := ownR_keep har8 hx9 ha8 (by unfold KW; omega)
    have har9 := har8.ext hx9 ha8 (by unfold KW; omega)
    have hxx9 := hx8.trans (hx9.mono KT.kw)
    have hg9 : Grow w w9 := hxx9.toGrow (by simp)
    have hdl9 : c9.dirty.length ≤ 2 := by rw [hdr8] at hdl9; simpa using hdl9
    have hN9 : c9.N = 600 := by rw [hn9.1, hN8]
    have hcap9 : c9.cap = 100 := by rw [hn9.cap, hcap8]
    have hops9 : c9.D.ops.length ≤ 206 + 206 * k := by rw [hn9.2.1]; exact hops8
    obtain ⟨a0, ha0, hca0⟩ := (hu.grow hg9).getW hgo1
    have hub := hu.2 us[k] (List.getElem_mem hgo1)
    have hrem : ((us[k] : Nat) : Int).tmod 9000 = ((szT us k : Nat) : Int) := by rw [← szT_at hgo1]; rfl
    have hsl := szT_lt us k
    have hs19 := needN_19 hsl
    have hnl := needT_le us k
    generalize hsz : szT us k = sz at hrem hsl hs19
    generalize hub' : us[k] = u at hca0 hub hrem
    simp (maxSteps := 1000000) (disch := omega) only [↓sy1, sy2, sy3, readOK, sy5, sy6, Nat.reduceEqDiff, ↓reduceIte, sy7, sy8, sy9, sya, oneOf, syb, syc, Nat.reduceAdd, Nat.reduceMul, syd, sye, syf, syg, syh, reduceCtorEq, e18, e0, e1, e9, e11, e13, e15, e16, e17, ha0, hca0, hrem]
    refine mk_rule elemB (kx := .i64) (ky := .i64) (a := sz) (c := sz) (by simp only [upd_at, Nat.reduceEqDiff, reduceIte, ev_tmp, ev_const, List.map_cons, List.map_nil, e18, e0, hrem]) (by simp only [upd_at, Nat.reduceEqDiff, reduceIte, ev_tmp, ev_const, List.map_cons, List.map_nil, e18, e0, hrem]) (by omega) (by omega) (by omega) (by omega) rfl ?_
    have hga : Grow w9 (w9.alloc (.cells (Array.replicate (sz : Int).toNat (.int .u8 0)) 5)) := (Keep.refl _ _).alloc _
    have hoa := own_made w9 w9.heap.size (Nat.le_refl _) 5 (sz : Int).toNat (by rw [Int.toNat_natCast]; omega) (.int .u8 0)
    generalize w9.alloc (.cells (Array.replicate (sz : Int).toNat (.int .u8 0)) 5) = wa at hga hoa ⊢
    rw [Int.toNat_natCast] at hoa ⊢
    generalize (Value.slice (some ⟨w9.heap.size, 0, none⟩) sz sz) = bv at hoa ⊢
    simp (maxSteps := 1000000) (disch := omega) only [↓sy1, sy2, sy3, readOK, sy5, sy6, Nat.reduceEqDiff, ↓reduceIte, sy7, sy8, sy9, sya, oneOf, syb, syc, Nat.reduceAdd, Nat.reduceMul, syd, sye, syf, syg, syh, reduceCtorEq, e18, e0, e1, e9, e11, e13, e15, e16, e17]
    refine loop_rule (fun e w' => ∃ j : Nat, j ≤ sz ∧ e 22 = .int .i64 j ∧ e 21 = bv ∧ e 19 = .int .i64 ((1 + k : Nat) : Int) ∧ e 20 = .int .i64 0 ∧ e 18 = .int .i64 k ∧ e 0 = uv ∧ e 1 = .bool t ∧ e 9 = .pointer (some ⟨p, 0, none⟩) ∧ e 11 = .pointer (some ⟨m, 0, none⟩) ∧ e 13 = .pointer (some ⟨s, 0, none⟩) ∧ e 15 = .int .i64 593 ∧ e 16 = .int .i64 31 ∧ e 17 = av ∧ Grow w9 w' ∧
        w'.ownsRow w9.heap.size 5 1 bv sz (bs ((datT (k + 1) sz).take j) ++ List.replicate (sz - j) (.int .u8 0))) (fun e _ => sz - (intOf (e 22)).toNat)
      ⟨0, by omega, by simp [upd, updO, ev], by simp [upd, updO, ev], by simp [upd, updO, ev], by simp [upd, updO, ev], by simp [upd, updO, ev, e18], by simp [upd, updO, ev, e0], by simp [upd, updO, ev, e1], by simp [upd, updO, ev, e9], by simp [upd, updO, ev, e11], by simp [upd, updO, ev, e13], by simp [upd, updO, ev, e15], by simp [upd, updO, ev, e16], by simp [upd, updO, ev, e17], hga, by simpa [bs] using hoa⟩ ?_
    clear e18 e0 e1 e9 e11 e13 e15 e16 e17
    rintro e wb ⟨j, hj, e22, e21, e19, e20, e18, e0, e1, e9, e11, e13, e15, e16, e17, hgb, hob⟩
    by_cases hlt : j < sz
    · have hlenB : ∀ w', lenF w' 0 bv = some (.int .i64 sz) := fun w' => by
        have := (Has.own hob).len w'
        rw [show (bs ((datT (k + 1) sz).take j) ++ List.replicate (sz - j) (Value.int .u8 0)).length = sz from by rw [List.length_append, bs_length, List.length_take, datT_length, List.length_replicate]; omega] at this
        exact this
      obtain ⟨a, wc, ha, hst, hoc, hkc, hbk⟩ := own_store hob hlt (u := .int .u8 ((UInt8.ofNat (k + 1 + j % 250)).toNat : Int)) rfl
      have hrj : ((j : Nat) : Int).tmod 250 = ((j % 250 : Nat) : Int) := rfl
      have hsum : ((1 + k : Nat) : Int) + ((j % 250 : Nat) : Int) = ((k + 1 + j % 250 : Nat) : Int) := by omega
      simp (maxSteps := 1000000) (disch := omega) only [↓sy1, sy2, sy3, readOK, sy5, sy6, Nat.reduceEqDiff, ↓reduceIte, sy7, sy8, sy9, sya, oneOf, syb, syc, Nat.reduceAdd, Nat.reduceMul, syd, sye, syf, syg, syh, reduceCtorEq, F3_L0, e22, e21, e19, e20, e18, e0, e1, e9, e11, e13, e15, e16, e17, hlenB, Int.ofNat_lt, hlt, decide_true, hrj, hsum, byteT, ha, hst]
      refine R_out ⟨⟨j + 1, by omega, rfl, hgb.then hkc (fun b hb h => by have := (World.ownsRow.lt hob b h).1; omega), ?_⟩, by simp only [intOf]; omega⟩
      have htk : (bs ((datT (k + 1) sz).take j)).length = j := by rw [bs_length, List.length_take, datT_length]; omega
      have : (bs ((datT (k + 1) sz).take j) ++ List.replicate (sz - j) (Value.int .u8 0)).set j (.int .u8 ((UInt8.ofNat (k + 1 + j % 250)).toNat : Int)) = bs ((datT (k + 1) sz).take (j + 1)) ++ List.replicate (sz - (j + 1)) (.int .u8 0) := by
        rw [List.set_append_right _ _ (by omega), htk, Nat.sub_self, show sz - j = (sz - (j + 1)) + 1 from by omega, List.replicate_succ, List.set_cons_zero, List.take_add_one, datT_at hlt]
        simp [bs]
      rw [← this]; exact hoc
    · have hje : j = sz := by omega
      subst hje
      have hlenB : ∀ w', lenF w' 0 bv = some (.int .i64 j) := fun w' => by
        have := (Has.own hob).len w'
        rw [show (bs ((datT (k + 1) j).take j) ++ List.replicate (j - j) (Value.int .u8 0)).length = j from by rw [List.length_append, bs_length, List.length_take, datT_length, List.length_replicate]; omega] at this
        exact this
      rw [Nat.sub_self, List.replicate_zero, List.append_nil, List.take_of_length_le (by rw [datT_length]; exact Nat.le_refl _)] at hob
      have hxb : Ext0 G9 w9 (G9.upto w9.heap.size (fun _ => 9) (fun _ => 0)) wb := .upto hgb _ _
      have hbR : RowO (KW 2 7) (G9.upto w9.heap.size (fun _ => 9) (fun _ => 0)) wb bv (datT (k + 1) j) := ⟨Has.own hob, fun b hb => by
        obtain ⟨hb1, hb2⟩ := World.ownsRow.lt hob b hb
        refine ⟨hb2, ?_⟩
        rw [(upto_own hb1).1]; unfold KW; omega⟩
      have hb9 := h9.ext hxb id id id
      have hab := ownR_keep har9 hxb ha9 id
      have harb := har9.ext hxb ha9 id
      have hxxb := hxx9.trans (hxb.mono (fun _ h => h.elim))
      generalize (G9.upto w9.heap.size (fun _ => 9) (fun _ => 0)) = Gb at hbR hb9 hab harb hxxb
      have hdl := datT_length (k + 1) j
      generalize hd : datT (k + 1) j = d at hbR hdl
      simp (maxSteps := 1000000) (disch := omega) only [↓sy1, sy2, sy3, readOK, sy5, sy6, Nat.reduceEqDiff, ↓reduceIte, sy7, sy8, sy9, sya, oneOf, syb, syc, Nat.reduceAdd, Nat.reduceMul, syd, sye, syf, syg, syh, reduceCtorEq, F3_L0, e22, e21, e19, e20, e18, e0, e1, e9, e11, e13, e15, e16, e17, hlenB, Int.ofNat_lt, hlt, decide_true, not_true_eq_false, decide_false]
      refine call0 (writeT_ok hb9 upF_same upB_same hbR (by omega) (by rw [hdl]; omega) (by rw [hdl]; omega)) ?_
      rintro _ wc ⟨rfl, Gc, cc, Pc, oc, hxc, hc, hnc, hsc, hfc⟩
      have hac := ownR_keep harb hxc hab (by unfold KW; omega)
      have harc := harb.ext hxc hab (by unfold KW; omega)
      have hNc : cc.N = 600 := by rw [hnc.1, hN9]
      have hcapc : cc.cap = 100 := by rw [hnc.cap, hcap9]
      have hopsc : cc.D.ops.length ≤ 206 + 206 * k := by rw [hnc.2.1]; exact hops9
      have hxxc := hxxb.trans (hxc.mono KT.kw)
      simp (maxSteps := 1000000) (disch := omega) only [↓sy1, sy2, sy3, readOK, sy5, sy6, Nat.reduceEqDiff, ↓reduceIte, sy7, sy8, sy9, sya, oneOf, syb, syc, Nat.reduceAdd, Nat.reduceMul, syd, sye, syf, syg, syh, reduceCtorEq, e22, e21, e19, e20, e18, e0, e1, e9, e11, e13, e15, e16, e17, decide_true, not_true_eq_false, decide_false]
      refine call0 (mcommit_ok hc.map (by omega)) ?_
      rintro _ wd ⟨rfl, Gd, hxd, hmd⟩
      obtain ⟨z1, z2, z3, _, z4⟩ := commit_facts hc.map.1.cache.oks
      have hfd := hc.fs.commit hc.map.1.cache.oks
      have hid : Ino Gd 2 7 wd s m p lq 0 cc.commit Pc (upto1 (1 + k + 1) 32) _ _ := ⟨hmd, hc.sto.ext hxd (by omega), hfd.1, hfd.2⟩
      have had := ownR_keep harc hxd hac (by omega)
      have hard := harc.ext hxd hac (by omega)
      have hxxd := hxxc.trans (hxd.mono (KT.of (by omega)))
      have hNd : cc.commit.N = 600 := by rw [z1, hNc]
      have hcapd : cc.commit.cap = 100 := by rw [z3, hcapc]
      have hopsd : cc.commit.D.ops.length ≤ 206 + 206 * (k + 1) := by omega
      generalize cc.commit = cd at hid z2 hNd hcapd hopsd
      rw [show 1 + k + 1 = 1 + (k + 1) from by omega] at hid
      have hge : Grow wd (wd.alloc (.cells #[.int .i64 ((1 + k : Nat) : Int)] 3)) := (Keep.refl _ _).alloc _
      have hhe : HasI (wd.alloc (.cells #[.int .i64 ((1 + k : Nat) : Int)] 3)) (.slice (some ⟨wd.heap.size, 0, none⟩) 1 1) [((k + 1 : Nat) : Int)] := by
        rw [show ((k + 1 : Nat) : Int) = ((1 + k : Nat) : Int) from by omega]
        exact Has.new1
      simp (maxSteps := 1000000) (disch := omega) only [↓sy1, sy2, sy3, readOK, sy5, sy6, Nat.reduceEqDiff, ↓reduceIte, sy7, sy8, sy9, sya, oneOf, syb, syc, Nat.reduceAdd, Nat.reduceMul, syd, sye, syf, syg, syh, reduceCtorEq, e22, e21, e19, e20, e18, e0, e1, e9, e11, e13, e15, e16, e17, decide_true, not_true_eq_false, decide_false, fill_one, oneF_int]
      generalize wd.alloc (.cells #[.int .i64 ((1 + k : Nat) : Int)] 3) = we at hge hhe ⊢
      have hxe : Ext0 Gd wd (Gd.upto wd.heap.size (fun _ => 0) (fun _ => 0)) we := .upto hge _ _
      have hie := hid.ext hxe id id id
      have hae := ownR_keep hard hxe had id
      have hare := hard.ext hxe had id
      have hxxe := hxxd.trans (hxe.mono (fun _ h => h.elim))
      generalize (Gd.upto wd.heap.size (fun _ => 0) (fun _ => 0)) = Ge at hie hare hxxe
      refine appN_rule (G := Ge) (by simp only [upd_at, Nat.reduceEqDiff, reduceIte, ev_tmp, ev_const, List.map_cons, List.map_nil, e17]) (z := ((k + 1 : Nat) : Int)) (by simpa only [upd_at, Nat.reduceEqDiff, reduceIte, ev_tmp, ev_const, List.map_cons, List.map_nil] using hhe) hae hare (by omega) (by omega) ?_
      intro av' wf hof hrf hxf
      rw [← numT_succ] at hof
      have hif := hie.ext hxf (by omega) (by omega) (by omega)
      have hxxf := hxxe.trans (hxf.mono (KT.of (by omega)))
      simp (maxSteps := 1000000) (disch := omega) only [↓sy1, sy2, sy3, readOK, sy5, sy6, Nat.reduceEqDiff, ↓reduceIte, sy7, sy8, sy9, sya, oneOf, syb, syc, Nat.reduceAdd, Nat.reduceMul, syd, sye, syf, syg, syh, reduceCtorEq, e22, e21, e19, e20, e18, e0, e1, e9, e11, e13, e15, e16, e17]
      refine R_out ⟨⟨k + 1, _, cd, Pc, _, _, av', by omega, by omega, rfl, rfl, hif, hNd, hcapd, z2, hopsd, ?_, ?_, hof, hrf, hxxf⟩, by simp only [intOf]; omega⟩
      · intro i _ hi
        by_cases hik : i = k
        · subst hik
          rw [show i + 1 = 1 + i from by omega]
          refine ⟨oc, upF_same, by rw [hsc, hdl, hsz], ?_⟩
          rw [upB_same, ← hd, hsz, show i + 1 = 1 + i from by omega]
        · obtain ⟨o, f1, f2, f3⟩ := hF8 i (by omega) (by omega)
          refine ⟨o, ?_, f2, ?_⟩
          · rw [upF_ne (by omega), upF_ne (by omega)]; exact f1
          · rw [upB_ne (by omega), upB_ne (by omega)]; exact f3
      · rw [needT, hsz, ← hdl]; omega
  /- MARKREST -/
  have hcnd : (k < us.length ∧ ¬ ((k : Int) < 15)) ∨ ¬ (k < us.length) := by omega
  clear hgo
  have hnl := needT_le us k
  rcases hcnd with ⟨hg1, hg2⟩ | hg1
  rotate_left
  have hg2 := hg1
  all_goals
    simp (maxSteps := 1000000) (disch := omega) only [↓sy1, sy2, sy3, readOK, sy5, sy6, Nat.reduceEqDiff, ↓reduceIte, sy7, sy8, sy9, sya, oneOf, syb, syc, Nat.reduceAdd, Nat.reduceMul, syd, sye, syf, syg, syh, reduceCtorEq, F3_L1, e18, e0, e1, e9, e11, e13, e15, e16, e17, hlenU, Int.ofNat_lt, hg1, hg2, decide_true, decide_false]
    refine loop_rule (fun e w' => ∃ (j : Nat) (G : Gh), j ≤ k ∧ e 23 = .int .i64 j ∧ e 0 = uv ∧ e 1 = .bool t ∧ e 9 = .pointer (some ⟨p, 0, none⟩) ∧ e 11 = .pointer (some ⟨m, 0, none⟩) ∧ e 13 = .pointer (some ⟨s, 0, none⟩) ∧ e 15 = .int .i64 593 ∧ e 16 = .int .i64 31 ∧ e 17 = av ∧
        Ino G 2 7 w' s m p lq 0 c8 P8 (upto1 (1 + k) 32) F8 B8 ∧ w'.ownsRow 0 3 1 av k (ints (numT k)) ∧ OwnR 10 G av ∧ Ext KT G00 w G w') (fun e _ => k - (intOf (e 23)).toNat)
      ⟨0, G8, by omega, by simp [upd, updO, ev], by simp [upd, updO, ev, e0], by simp [upd, updO, ev, e1], by simp [upd, updO, ev, e9], by simp [upd, updO, ev, e11], by simp [upd, updO, ev, e13], by simp [upd, updO, ev, e15], by simp [upd, updO, ev, e16], by simp [upd, updO, ev, e17], h8, ha8, har8, hx8⟩ ?_
    clear e18 e0 e1 e9 e11 e13 e15 e16 e17 h8 ha8 har8 hx8 hg8
    rintro e w9 ⟨j, G9, hj, e23, e0, e1, e9, e11, e13, e15, e16, e17, h9, ha9, har9, hx9⟩
    have hlenA : ∀ w', lenF w' 0 av = some (.int .i64 k) := fun w' => by
      have := (Has.own ha9 : HasI w9 av _).lenI w'
      rw [numT_length] at this
      exact this
    by_cases hjk : j < k
    · obtain ⟨aa, haa, hca, _⟩ := (Has.own ha9 : HasI w9 av _).getI (i := j) (by rw [numT_length]; exact hjk)
      rw [numT_at] at hca
      obtain ⟨o, f1, f2, f3⟩ := hF8 j (by omega) hjk
      obtain ⟨b1, b2, b3, b4⟩ := h9.blenT f1
      rw [upto1_length] at b4
      have hrd := rdT_all (F := F8) (B := B8) (k := 32) (j := j + 1) (by omega) b4 f1 (by omega)
      simp (maxSteps := 1000000) (disch := omega) only [↓sy1, sy2, sy3, readOK, sy5, sy6, Nat.reduceEqDiff, ↓reduceIte, sy7, sy8, sy9, sya, oneOf, syb, syc, Nat.reduceAdd, Nat.reduceMul, syd, sye, syf, syg, syh, reduceCtorEq, F3_L3, e23, e0, e1, e9, e11, e13, e15, e16, e17, hlenA, Int.ofNat_lt, hjk, decide_true, haa, hca]
      refine call0 (iread_spec (ρ := 9) h9 (by omega) (i := ((j + 1 : Nat) : Int)) (pos := 0) (n := 70656) (by omega) (by omega)) ?_
      rintro _ wa ⟨u, Ga, rfl, hua, hura, hxa, hia⟩
      rw [upto1_length, hrd.2, f3] at hua
      rw [upto1_length, hrd.1]
      have haA := ownR_keep har9 hxa ha9 (by omega)
      have harA := har9.ext hxa ha9 (by omega)
      have hxxa := hx9.trans (hxa.mono (KT.of (by omega)))
      have hga : Grow w wa := hxxa.toGrow (by simp)
      have hju : j < us.length := by omega
      obtain ⟨a0, ha0, hca0⟩ := (hu.grow hga).getW hju
      have hub := hu.2 us[j] (List.getElem_mem hju)
      have hrem : ((us[j] : Nat) : Int).tmod 9000 = ((szT us j : Nat) : Int) := by rw [← szT_at hju]; rfl
      generalize hub' : us[j] = uj at hca0 hub hrem
      have hub2 : HasB wa u (datT (j + 1) (szT us j)) := Has.own hua
      have hlenD : ∀ w', lenF w' 0 u = some (.int .i64 (szT us j)) := fun w' => by
        have := hub2.lenB w'
        rw [datT_length] at this
        exact this
      have hsl := szT_lt us j
      generalize hsz : szT us j = sz at hrem hub2 hlenD hsl
      simp (maxSteps := 1000000) (disch := omega) only [↓sy1, sy2, sy3, readOK, sy5, sy6, Nat.reduceEqDiff, ↓reduceIte, sy7, sy8, sy9, sya, oneOf, syb, syc, Nat.reduceAdd, Nat.reduceMul, syd, sye, syf, syg, syh, reduceCtorEq, e23, e0, e1, e9, e11, e13, e15, e16, e17, decide_true, not_true_eq_false, decide_false, hlenD, ha0, hca0, hrem]
      refine loop_rule (fun e w' => ∃ (i : Nat), i ≤ sz ∧ e 26 = .int .i64 i ∧ e 24 = u ∧ e 23 = .int .i64 j ∧ e 0 = uv ∧ e 1 = .bool t ∧ e 9 = .pointer (some ⟨p, 0, none⟩) ∧ e 11 = .pointer (some ⟨m, 0, none⟩) ∧ e 13 = .pointer (some ⟨s, 0, none⟩) ∧ e 15 = .int .i64 593 ∧ e 16 = .int .i64 31 ∧ e 17 = av ∧ Grow wa w') (fun e _ => sz - (intOf (e 26)).toNat)
        ⟨0, by omega, by simp [upd, updO, ev], by simp [upd, updO, ev], by simp [upd, updO, ev, e23], by simp [upd, updO, ev, e0], by simp [upd, updO, ev, e1], by simp [upd, updO, ev, e9], by simp [upd, updO, ev, e11], by simp [upd, updO, ev, e13], by simp [upd, updO, ev, e15], by simp [upd, updO, ev, e16], by simp [upd, updO, ev, e17], Keep.refl _ _⟩ ?_
      clear e23 e0 e1 e9 e11 e13 e15 e16 e17
      rintro e wb ⟨i, hi, e26, e24, e23, e0, e1, e9, e11, e13, e15, e16, e17, hgb⟩
      by_cases hil : i < sz
      · simp (maxSteps := 1000000) (disch := omega) only [↓sy1, sy2, sy3, readOK, sy5, sy6, Nat.reduceEqDiff, ↓reduceIte, sy7, sy8, sy9, sya, oneOf, syb, syc, Nat.reduceAdd, Nat.reduceMul, syd, sye, syf, syg, syh, reduceCtorEq, F3_L2, e26, e24, e23, e0, e1, e9, e11, e13, e15, e16, e17, hlenD, Int.ofNat_lt, hil, decide_true]
        refine draw3_0 (fun _ => False) ?_
        have hgd : Grow wb wb.drew := (Keep.refl _ _).drew
        have hgc := hgb.trans hgd
        generalize wb.drew = wc at hgd hgc ⊢
        obtain ⟨a1, ha1, hca1, _⟩ := (hub2.grow hgc).getB (i := i) (by rw [datT_length]; exact hil)
        rw [show (datT (j + 1) sz)[i]'(by rw [datT_length]; exact hil) = UInt8.ofNat (j + 1 + i % 250) from by simp [datT]] at hca1
        obtain ⟨a2, ha2, hca2, _⟩ := ((Has.own haA : HasI wa av _).grow hgc).getI (i := j) (by rw [numT_length]; exact hjk)
        rw [numT_at] at hca2
        have hri : ((i : Nat) : Int).tmod 250 = ((i % 250 : Nat) : Int) := rfl
        have hsum : ((j + 1 : Nat) : Int) + ((i % 250 : Nat) : Int) = ((j + 1 + i % 250 : Nat) : Int) := by omega
        simp (maxSteps := 1000000) (disch := omega) only [↓sy1, sy2, sy3, readOK, sy5, sy6, Nat.reduceEqDiff, ↓reduceIte, sy7, sy8, sy9, sya, oneOf, syb, syc, Nat.reduceAdd, Nat.reduceMul, syd, sye, syf, syg, syh, reduceCtorEq, PL3_0, e26, e24, e23, e0, e1, e9, e11, e13, e15, e16, e17, hlenD, ha1, hca1, ha2, hca2, hri, hsum, byteT, eq_self, not_true_eq_false, decide_true, decide_false, false_implies]
        exact R_out ⟨⟨i + 1, by omega, rfl, hgc⟩, by simp only [intOf]; omega⟩
      · have hib := hia.grow hgb
        simp (maxSteps := 1000000) (disch := omega) only [↓sy1, sy2, sy3, readOK, sy5, sy6, Nat.reduceEqDiff, ↓reduceIte, sy7, sy8, sy9, sya, oneOf, syb, syc, Nat.reduceAdd, Nat.reduceMul, syd, sye, syf, syg, syh, reduceCtorEq, F3_L2, e26, e24, e23, e0, e1, e9, e11, e13, e15, e16, e17, hlenD, Int.ofNat_lt, hil, decide_false]
        exact R_out ⟨⟨j + 1, Ga, by omega, rfl, hib, own_keep haA hgb (fun _ _ => id), harA, hxxa.trans (.grow hgb)⟩, by simp only [intOf]; omega⟩
    /- all are let go -/
    simp (maxSteps := 1000000) (disch := omega) only [↓sy1, sy2, sy3, readOK, sy5, sy6, Nat.reduceEqDiff, ↓reduceIte, sy7, sy8, sy9, sya, oneOf, syb, syc, Nat.reduceAdd, Nat.reduceMul, syd, sye, syf, syg, syh, reduceCtorEq, F3_L3, e23, e0, e1, e9, e11, e13, e15, e16, e17, hlenA, Int.ofNat_lt, hjk, decide_false]
    refine loop_rule (fun e w' => ∃ (q a b : Nat) (G : Gh) (c : Csh) (P I : List Bool) (F : Nat → Option Opn) (B : Nat → List UInt8), a ≤ b ∧ b ≤ k ∧ q = a + (k - b) ∧ (t = true → a = 0) ∧ (t = false → b = k) ∧ e 27 = .int .i64 q ∧ e 1 = .bool t ∧ e 9 = .pointer (some ⟨p, 0, none⟩) ∧ e 11 = .pointer (some ⟨m, 0, none⟩) ∧ e 13 = .pointer (some ⟨s, 0, none⟩) ∧ e 15 = .int .i64 593 ∧ e 16 = .int .i64 31 ∧ e 17 = av ∧
        Ino G 2 7 w' s m p lq 0 c P I F B ∧ I.length = 32 ∧ c.N = 600 ∧ c.cap = 100 ∧ c.dirty = [] ∧ c.D.ops.length ≤ 3500 + 206 * q ∧ FilesT us F B a b ∧ freeN P + needT us b = 593 + needT us a ∧ freeN I + (b - a) = 31 ∧ w'.ownsRow 0 3 1 av k (ints (numT k)) ∧ OwnR 10 G av ∧ Ext KT G00 w G w') (fun e _ => k - (intOf (e 27)).toNat)
      ⟨0, 0, k, G9, c8, P8, upto1 (1 + k) 32, F8, B8, by omega, by omega, by omega, fun _ => rfl, fun _ => rfl, by simp [upd, updO, ev], by simp [upd, updO, ev, e1], by simp [upd, updO, ev, e9], by simp [upd, updO, ev, e11], by simp [upd, updO, ev, e13], by simp [upd, updO, ev, e15], by simp [upd, updO, ev, e16], by simp [upd, updO, ev, e17], h9, upto1_length _ _, hN8, hcap8, hdr8, by omega, hF8, by simp [needT, hfr8], by rw [freeN_upto (by omega)]; omega, ha9, har9, hx9⟩ ?_
    clear e23 e0 e1 e9 e11 e13 e15 e16 e17 h9 ha9 har9 hx9 hF8 hfr8 hN8 hcap8 hdr8 hops8
    rintro e wa ⟨q, a, b, Ga, ca, Pa, Ia, Fa, Ba, hab, hbk, hq, ht1, ht0, e27, e1, e9, e11, e13, e15, e16, e17, ha, hIl, hNa, hcapa, hdra, hopsa, hFa, hfra, hfia, hao, har, hxa⟩
    by_cases hqk : q < k
    · have pick : ∃ x a' b', a ≤ x ∧ x < b ∧ a' ≤ b' ∧ b' ≤ k ∧ a ≤ a' ∧ b' ≤ b ∧ (∀ i, a' ≤ i → i < b' → i ≠ x) ∧ q + 1 = a' + (k - b') ∧ (t = true → a' = 0 ∧ x = k - 1 - q) ∧ (t = false → b' = k ∧ x = q) ∧ needT us b + needT us a' = needT us b' + needT us a + needN (szT us x) ∧ b' - a' + 1 = b - a := by
        cases t with
        | true =>
          have := ht1 rfl
          subst this
          have h1 := needT_pred us (k := b) (by omega)
          exact ⟨b - 1, 0, b - 1, by omega, by omega, by omega, by omega, by omega, by omega, fun i _ _ => by omega, by omega, fun _ => ⟨rfl, by omega⟩, fun h => (by cases h), by omega, by omega⟩
        | false =>
          have := ht0 rfl
          subst this
          have h1 : needT us (a + 1) = needT us a + needN (szT us a) := rfl
          exact ⟨a, a + 1, b, by omega, by omega, by omega, by omega, by omega, by omega, fun i _ _ => by omega, by omega, fun h => by (cases h), fun _ => ⟨rfl, by omega⟩, by omega, by omega⟩
      obtain ⟨x, a', b', p1, p2, p3, p4, p5, p6, p7, p8, p9, p10, p11, p12⟩ := pick
      obtain ⟨o, f1, f2, f3⟩ := hFa x p1 p2
      obtain ⟨aq, haq, hcq, _⟩ := (Has.own hao : HasI wa av _).getI (i := q) (by rw [numT_length]; exact hqk)
      rw [numT_at] at hcq
      have drop := dropT_ok ha f1 (by rw [hdra, hcapa]; simp)
      cases t with
      | true =>
        obtain ⟨rfl, hxq⟩ := p9 rfl
        obtain ⟨ax, hax, hcx, _⟩ := (Has.own hao : HasI wa av _).getI (i := x) (by rw [numT_length]; omega)
        rw [numT_at] at hcx
        simp (maxSteps := 1000000) (disch := omega) only [↓sy1, sy2, sy3, readOK, sy5, sy6, Nat.reduceEqDiff, ↓reduceIte, sy7, sy8, sy9, sya, oneOf, syb, syc, Nat.reduceAdd, Nat.reduceMul, syd, sye, syf, syg, syh, reduceCtorEq, F3_L4, e27, e1, e9, e11, e13, e15, e16, e17, hlenA, Int.ofNat_lt, hqk, decide_true, haq, hcq, show ((k : Nat) : Int) - 1 - ((q : Nat) : Int) = ((x : Nat) : Int) from by omega, hax, hcx]
        refine call0 drop ?_
        rintro _ wb ⟨rfl, Gb, cb, Pb, hxb, hb, hnb, hfb, hfib⟩
        rw [f2] at hfb
        simp (maxSteps := 1000000) (disch := omega) only [↓sy1, sy2, sy3, readOK, sy5, sy6, Nat.reduceEqDiff, ↓reduceIte, sy7, sy8, sy9, sya, oneOf, syb, syc, Nat.reduceAdd, Nat.reduceMul, syd, sye, syf, syg, syh, reduceCtorEq, e27, e1, e9, e11, e13, e15, e16, e17, decide_true, not_true_eq_false, decide_false]
        refine call0 (mcommit_ok hb.map (by rw [hnb.2.1]; omega)) ?_
        rintro _ wd ⟨rfl, Gd, hxd, hmd⟩
        obtain ⟨z1, z2, z3, _, z4⟩ := commit_facts hb.map.1.cache.oks
        rw [hnb.2.1] at z4
        have hfd := hb.fs.commit hb.map.1.cache.oks
        have hid : Ino Gd 2 7 wd s m p lq 0 cb.commit Pb (Ia.set (x + 1) false) (upF Fa (x + 1) none) Ba := ⟨hmd, hb.sto.ext hxd (by omega), hfd.1, hfd.2⟩
        have hob := ownR_keep har hxb hao (by unfold KW; omega)
        have hrb := har.ext hxb hao (by unfold KW; omega)
        simp (maxSteps := 1000000) (disch := omega) only [↓sy1, sy2, sy3, readOK, sy5, sy6, Nat.reduceEqDiff, ↓reduceIte, sy7, sy8, sy9, sya, oneOf, syb, syc, Nat.reduceAdd, Nat.reduceMul, syd, sye, syf, syg, syh, reduceCtorEq, e27, e1, e9, e11, e13, e15, e16, e17, decide_true, not_true_eq_false, decide_false]
        refine R_out ⟨⟨q + 1, 0, b', Gd, _, Pb, _, _, Ba, p3, p4, p8, rfl, fun h => h.elim, rfl, hid, by rw [List.length_set]; exact hIl, by rw [z1, hnb.1, hNa], by rw [z3, hnb.cap, hcapa], z2, by omega, fun i i1 i2 => ?_, by omega, by omega, ownR_keep hrb hxd hob (by omega), hrb.ext hxd hob (by omega), (hxa.trans (hxb.mono KT.kw)).trans (hxd.mono (KT.of (by omega)))⟩, by simp only [intOf]; omega⟩
        obtain ⟨o', g1, g2, g3⟩ := hFa i (by omega) (by omega)
        exact ⟨o', by rw [upF_ne (by have := p7 i i1 i2; omega)]; exact g1, g2, g3⟩
      | false =>
        obtain ⟨hbe, hxq⟩ := p10 rfl
        subst hxq
        simp (maxSteps := 1000000) (disch := omega) only [↓sy1, sy2, sy3, readOK, sy5, sy6, Nat.reduceEqDiff, ↓reduceIte, sy7, sy8, sy9, sya, oneOf, syb, syc, Nat.reduceAdd, Nat.reduceMul, syd, sye, syf, syg, syh, reduceCtorEq, F3_L4, e27, e1, e9, e11, e13, e15, e16, e17, hlenA, Int.ofNat_lt, hqk, decide_true, haq, hcq]
        refine call0 drop ?_
        rintro _ wb ⟨rfl, Gb, cb, Pb, hxb, hb, hnb, hfb, hfib⟩
        rw [f2] at hfb
        simp (maxSteps := 1000000) (disch := omega) only [↓sy1, sy2, sy3, readOK, sy5, sy6, Nat.reduceEqDiff, ↓reduceIte, sy7, sy8, sy9, sya, oneOf, syb, syc, Nat.reduceAdd, Nat.reduceMul, syd, sye, syf, syg, syh, reduceCtorEq, e27, e1, e9, e11, e13, e15, e16, e17, decide_true, not_true_eq_false, decide_false]
        refine call0 (mcommit_ok hb.map (by rw [hnb.2.1]; omega)) ?_
        rintro _ wd ⟨rfl, Gd, hxd, hmd⟩
        obtain ⟨z1, z2, z3, _, z4⟩ := commit_facts hb.map.1.cache.oks
        rw [hnb.2.1] at z4
        have hfd := hb.fs.commit hb.map.1.cache.oks
        have hid : Ino Gd 2 7 wd s m p lq 0 cb.commit Pb (Ia.set (x + 1) false) (upF Fa (x + 1) none) Ba := ⟨hmd, hb.sto.ext hxd (by omega), hfd.1, hfd.2⟩
        have hob := ownR_keep har hxb hao (by unfold KW; omega)
        have hrb := har.ext hxb hao (by unfold KW; omega)
        simp (maxSteps := 1000000) (disch := omega) only [↓sy1, sy2, sy3, readOK, sy5, sy6, Nat.reduceEqDiff, ↓reduceIte, sy7, sy8, sy9, sya, oneOf, syb, syc, Nat.reduceAdd, Nat.reduceMul, syd, sye, syf, syg, syh, reduceCtorEq, e27, e1, e9, e11, e13, e15, e16, e17, decide_true, not_true_eq_false, decide_false]
        refine R_out ⟨⟨x + 1, a', b', Gd, _, Pb, _, _, Ba, p3, p4, p8, fun h => h.elim, hbe, rfl, hid, by rw [List.length_set]; exact hIl, by rw [z1, hnb.1, hNa], by rw [z3, hnb.cap, hcapa], z2, by omega, fun i i1 i2 => ?_, by omega, by omega, ownR_keep hrb hxd hob (by omega), hrb.ext hxd hob (by omega), (hxa.trans (hxb.mono KT.kw)).trans (hxd.mono (KT.of (by omega)))⟩, by simp only [intOf]; omega⟩
        obtain ⟨o', g1, g2, g3⟩ := hFa i (by omega) (by omega)
        exact ⟨o', by rw [upF_ne (by have := p7 i i1 i2; omega)]; exact g1, g2, g3⟩
    · have hab' : a = b := by omega
      subst hab'
      have hPl : Pa.length < 5000 := by rw [ha.fs.alc.plen, hNa]; omega
      have e1p : freeN Pa = 593 := by omega
      have e1i : freeN Ia = 31 := by omega
      simp (maxSteps := 1000000) (disch := omega) only [↓sy1, sy2, sy3, readOK, sy5, sy6, Nat.reduceEqDiff, ↓reduceIte, sy7, sy8, sy9, sya, oneOf, syb, syc, Nat.reduceAdd, Nat.reduceMul, syd, sye, syf, syg, syh, reduceCtorEq, F3_L4, e27, e1, e9, e11, e13, e15, e16, e17, hlenA, Int.ofNat_lt, hqk, decide_false]
      refine call0 (free_spec ha.map hPl) ?_
      rintro _ wb ⟨rfl, Gb, hxb, hmb⟩
      rw [e1p, e1i, show ((593 : Nat) : Int) = 593 from rfl, show ((31 : Nat) : Int) = 31 from rfl]
      simp (maxSteps := 1000000) (disch := omega) only [↓sy1, sy2, sy3, readOK, sy5, sy6, Nat.reduceEqDiff, ↓reduceIte, sy7, sy8, sy9, sya, oneOf, syb, syc, Nat.reduceAdd, Nat.reduceMul, syd, sye, syf, syg, syh, reduceCtorEq, e15, e16, decide_true]
      exact R_out ((hxa.trans (hxb.mono (KT.of (by omega)))).toGrow (by simp))
end Go.Proofs.YtienelpepioggaaGreat

/- Arguments opened: rows of numbers, of bytes. What is only read reads as it did. -/
namespace Go.Proofs.YtienelpepioggaaGreat
open Go
set_option linter.unusedSimpArgs false
open Go.RowKit Go.ChangeShapes Go.WideShapes Go.Deep Go.Joins
theorem okSlice {P : Program} {w : World} {r : Reach} {base : Nat} {t e : TypeId} {v : Value} (ht : P.underlying t = some (.slice e)) (h : Value.okWide P w r base t v) :
    v = .slice none 0 0 ∨ ∃ b o len cap, v = .slice (some ⟨b, o, none⟩) len cap := by
  simp only [Value.okWide, ht, Cell.okWide] at h
  cases v with
  | slice a len cap =>
    cases a with
    | none =>
      simp only [Cell.ok, ht] at h
      cases len <;> cases cap <;> simp at h
      exact .inl rfl
    | some a =>
      simp only [Cell.ok, ht] at h
      obtain ⟨_, _, _, hs, _⟩ := h
      obtain ⟨b, o, s⟩ := a
      cases hs
      exact .inr ⟨b, o, len, cap, rfl⟩
  | _ => simp [Cell.ok, ht] at h
section
variable {H : Type} {enc : TypeId × Value → H} {w : World} {base : Nat} {spare : Nat → Bool} {held : Bool}
/-- What is only read reads as it did. -/
theorem argsStay {P : Program} {W W' : World} (hl : laidOutB P = true) (hb : Below W.heap.size W W') : ∀ {ts : List TypeId} {vs : List Value} {ds : List (DataW H)} {ps : List MemPlace}, (ts.all fun t => P.readableRec t && decide (t < P.types.size)) = true →
    DataW.TrodAll enc P W 0 (fun _ => true) true ts vs ds ps → (∀ x ∈ ps, x.block < W.heap.size) → DataW.TrodAll enc P W' 0 (fun b => decide (b < W.heap.size)) true ts vs ds ps
  | [], _, _, _, _, h, _ => by
    obtain ⟨rfl, rfl, rfl⟩ := trodAll_nil h
    exact trodAll_mk0
  | t :: ts, _, _, _, ht, h, hlt => by
    obtain ⟨v, vs, d, ds, p, q, rfl, rfl, rfl, h0, h1⟩ := trodAll_cons h
    simp only [List.all_cons, Bool.and_eq_true, decide_eq_true_eq] at ht
    exact trodAll_cons_mk (Below.trod hl ht.1.1 ht.1.2 h0 hb (fun x hx => hlt x (by simp [hx]))) (argsStay hl hb ht.2 h1 (fun x hx => hlt x (by simp [hx])))
end
end Go.Proofs.YtienelpepioggaaGreat

/- Arguments opened: rows of groups of pages. -/
namespace Go.Proofs.YtienelpepioggaaGreat
open Go
set_option linter.unusedSimpArgs false
open Go.RowKit Go.ChangeShapes Go.WideShapes Go.Deep Go.Joins
section
variable {H : Type} {enc : TypeId × Value → H} {w : World} {base : Nat} {spare : Nat → Bool} {held : Bool}
end
end Go.Proofs.YtienelpepioggaaGreat

/- Arguments opened: a number of sixteen bits; two of them. -/
namespace Go.Proofs.YtienelpepioggaaGreat
open Go
set_option linter.unusedSimpArgs false
open Go.RowKit Go.ChangeShapes Go.WideShapes Go.Deep Go.Joins
section
variable {H : Type} {enc : TypeId × Value → H}
end
end Go.Proofs.YtienelpepioggaaGreat

/- Arguments opened: rows of numbers of sixteen bits. -/
namespace Go.Proofs.YtienelpepioggaaGreat
open Go
set_option linter.unusedSimpArgs false
open Go.RowKit Go.ChangeShapes Go.WideShapes Go.Deep Go.Joins
section
variable {H : Type} {enc : TypeId × Value → H}
theorem cellsW16 : Tryz.prog.cellsOf 47 = 1 := by kernel_rfl
set_option maxRecDepth 100000 in
theorem open_u16L {v : Value} {d : DataW H} {p : List MemPlace} {W : World} {b0 : Nat} (hv : Value.okWide Tryz.prog W .any b0 22 v) (h : DataW.Trod enc Tryz.prog W 0 (fun _ => true) true 22 v d p) :
    ∃ l : List Nat, HasW W v l := by
  obtain ⟨fuel, hf⟩ := h
  rcases okSlice Tryz.underlying22 hv with rfl | ⟨b, o, len, cap, rfl⟩
  · exact ⟨[], Has.nil 1 W, by simp⟩
  rcases open_ints Tryz.underlying22 Tryz.underlying47 cellsW16 hf with ⟨hcs, _⟩ | ⟨a, len', cap', zs, hcs, _, hl, hm, hz, hx, hcell, hwz⟩
  · simp [Value.cells] at hcs
  simp only [Value.cells, List.cons.injEq, Value.slice.injEq, and_true, Option.some.injEq] at hcs
  obtain ⟨rfl, rfl, rfl⟩ := hcs
  simp only [if_true] at hz
  have hlen : (zs.take len).length = len := by rw [List.length_take]; omega
  refine ⟨(zs.take len).map fun z => z.toNat, .inl ⟨b, o, len, cap, rfl, by simp [ws]; omega, hl, fun j u hj => ?_⟩, fun n hn => ?_⟩
  · simp only [ws, List.map_map, List.getElem?_map, Option.map_eq_some_iff, Function.comp] at hj
    obtain ⟨z, hj, rfl⟩ := hj
    obtain ⟨hjl, hj⟩ := List.getElem?_eq_some_iff.1 hj
    rw [hlen] at hjl
    have := hcell j (by omega)
    rw [add_lit] at this
    have hbz := bounds_u16 (hwz z (by rw [← hj, List.getElem_take]; exact List.getElem_mem _))
    rw [this, ← hj, List.getElem_take, List.getD_eq_getElem?_getD, List.getElem?_eq_getElem (by omega)]
    rw [List.getElem_take] at hj
    have hz' : ((z.toNat : Nat) : Int) = z := by omega
    rw [hj, hz']; rfl
  · obtain ⟨z, hz1, rfl⟩ := List.mem_map.1 hn
    have hbz := bounds_u16 (hwz z (List.mem_of_mem_take hz1))
    omega
end
end Go.Proofs.YtienelpepioggaaGreat
