/- Texts of one claim, put together in their order: what each proves stands ahead of it. -/
import Derived.Test.YtneehlkofcdhoaaGreatMd
import Derived.Test.YtneehlkofcdhoaaGreatMc
import Derived.Carry
import Derived.Deep.Slices
import Derived.Lib.SmallJoins
import Derived.OpenShut
/- The reference's log: its head is written, pages are brought home. -/
namespace Go.Proofs.YtneehlkofcdhoaaGreat
open Go
set_option linter.unusedSimpArgs false
open Go.RowKit (intOf)
/-- The head's cells while it is written. -/
def bufV (ns : List Nat) (i : Nat) : List Value := bs (headP ns i) ++ List.replicate (508 - 2 * i) (.int .u8 0)
theorem bufV_first (ns : List Nat) : ((((List.replicate 512 (Value.int .u8 0)).set 0 (.int .u8 68)).set 1 (.int .u8 78)).set 2 (.int .u8 (((ns.length : Int) / 256) % 256))).set 3 (.int .u8 ((ns.length : Int) % 256)) = bufV ns 0 := by
  have h : ∀ z : Value, List.replicate 512 z = z :: z :: z :: z :: List.replicate 508 z := fun z => rfl
  rw [h, bufV]
  have hbs : bs (headP ns 0) = [Value.int .u8 68, Value.int .u8 78, Value.int .u8 (((ns.length : Int) / 256) % 256), Value.int .u8 ((ns.length : Int) % 256)] := by
    simp [headP, bs, hi_val, lo_val]
  rw [hbs, show 508 - 2 * 0 = 508 from rfl]
  generalize List.replicate 508 (Value.int .u8 0) = r
  rfl
theorem bufV_succ (ns : List Nat) {i : Nat} (h : i < ns.length) (hl : ns.length ≤ 100) : ((bufV ns i).set (4 + 2 * i) (.int .u8 (((ns[i] : Nat) : Int) / 256 % 256))).set (5 + 2 * i) (.int .u8 (((ns[i] : Nat) : Int) % 256)) = bufV ns (i + 1) := by
  have hpl := headP_length ns (Nat.le_of_lt h)
  have h1 : (bs (headP ns i)).length = 4 + 2 * i := by rw [bs_length, hpl]
  have hr : List.replicate (508 - 2 * i) (Value.int .u8 0) = .int .u8 0 :: .int .u8 0 :: List.replicate (508 - 2 * (i + 1)) (.int .u8 0) := by
    rw [show 508 - 2 * i = (508 - 2 * (i + 1)) + 1 + 1 from by omega, List.replicate_succ, List.replicate_succ]
  rw [bufV, List.set_append_right _ _ (by rw [h1]; exact Nat.le_refl _), h1, Nat.sub_self, hr, List.set_cons_zero, List.set_append_right _ _ (by rw [h1]; omega), h1, show 5 + 2 * i - (4 + 2 * i) = 1 from by omega, List.set_cons_succ, List.set_cons_zero, bufV, headP_succ ns h]
  simp only [bs, List.map_append, List.map_cons, List.map_nil, hi_val, lo_val, List.append_assoc, List.cons_append, List.nil_append]
theorem bufV_all (ns : List Nat) : bufV ns ns.length = bs (headB ns) := by
  rw [bufV, zero_cells, ← headP_all ns]
  simp [bs]
theorem rsetHead_spec {G : Gh} {κ : Nat} {w : World} {q size came : Nat} {D : Dsk} {nv : Value} {ns : List Nat} (h : RLogAt G κ w q size came D) (hn : HasI w nv (zs ns)) (hl : ns.length ≤ 100) (ho : D.ops.length < 900000) :
    Calls Tryz.prog 37 #[.pointer (some ⟨q, 0, none⟩), nv] w (Ret fun _ w' => ∃ G', RLogAt G' κ w' q size came ((D.add (.wr 0 (headB ns))).add .fl) ∧ Ext (fun c => c = κ) G w G' w') := by
  have hlog := h
  obtain ⟨hκ, hsz1, hsz2, ho0, p, hq, hd⟩ := h
  have hlen : ∀ w', lenF w' 0 nv = some (.int .i64 ns.length) := fun w' => by rw [hn.lenI]; simp
  have hmost := hd.ok.most
  have hsome := hd.ok.some
  apply enter37
  apply R_in
  simp (maxSteps := 1000000) (disch := omega) only [↓sy1, sy2, sy3, readOK, sy5, sy6, Nat.reduceEqDiff, ↓reduceIte, sy7, sy8, sy9, sya, oneOf, syb, syc, Nat.reduceAdd, Nat.reduceMul, syd, sye, syf, syg, syh, reduceCtorEq, F37]
  refine mk_rule elemB (kx := .i64) (ky := .i64) (a := 512) (c := 512) (by simp only [upd_at, Nat.reduceEqDiff, reduceIte, ev_tmp, ev_const, List.map_cons, List.map_nil]) (by simp only [upd_at, Nat.reduceEqDiff, reduceIte, ev_tmp, ev_const, List.map_cons, List.map_nil]) (by omega) (by omega) (by omega) (by omega) rfl ?_
  have hg1 : Grow w (w.alloc (.cells (Array.replicate (512 : Int).toNat (.int .u8 0)) 5)) := (Keep.refl _ _).alloc _
  have ho1 := own_made w w.heap.size (Nat.le_refl _) 5 (512 : Int).toNat (by decide) (.int .u8 0)
  generalize w.alloc (.cells (Array.replicate (512 : Int).toNat (.int .u8 0)) 5) = w1 at hg1 ho1 ⊢
  rw [show (512 : Int).toNat = 512 from rfl] at ho1 ⊢
  generalize (Value.slice (some ⟨w.heap.size, 0, none⟩) 512 512) = bv at ho1 ⊢
  obtain ⟨a0, w2, ha0, hs0, ho2, hk2, _⟩ := own_store ho1 (i := 0) (by omega) (u := .int .u8 68) rfl
  obtain ⟨a1, w3, ha1, hs1, ho3, hk3, _⟩ := own_store ho2 (i := 1) (by omega) (u := .int .u8 78) rfl
  obtain ⟨a2, w4, ha2, hs2, ho4, hk4, _⟩ := own_store ho3 (i := 2) (by omega) (u := .int .u8 (((ns.length : Int) / 256) % 256)) rfl
  obtain ⟨a3, w5, ha3, hs3, ho5, hk5, _⟩ := own_store ho4 (i := 3) (by omega) (u := .int .u8 ((ns.length : Int) % 256)) rfl
  have ha0' : iaF 1 bv (.int .i64 0) = some (.pointer (some a0)) := ha0
  have ha1' : iaF 1 bv (.int .i64 1) = some (.pointer (some a1)) := ha1
  have ha2' : iaF 1 bv (.int .i64 2) = some (.pointer (some a2)) := ha2
  have ha3' : iaF 1 bv (.int .i64 3) = some (.pointer (some a3)) := ha3
  simp (maxSteps := 1000000) (disch := omega) only [↓sy1, sy2, sy3, readOK, sy5, sy6, Nat.reduceEqDiff, ↓reduceIte, sy7, sy8, sy9, sya, oneOf, syb, syc, Nat.reduceAdd, Nat.reduceMul, syd, sye, syf, syg, syh, reduceCtorEq, hlen, bin_shr8, ha0', ha1', ha2', ha3', hs0, hs1, hs2, hs3]
  have hnew : ∀ b, b < w.heap.size → ¬ (bv.ownBlock = some b) := fun b hb h => by have := (World.ownsRow.lt ho1 b h).1; omega
  have hg5 : Grow w w5 := (((hg1.then hk2 (fun b hb h => hnew b hb h)).then hk3 (fun b hb h => hnew b hb h)).then hk4 (fun b hb h => hnew b hb h)).then hk5 (fun b hb h => hnew b hb h)
  rw [bufV_first] at ho5
  refine loop_rule (fun e w' => ∃ i : Nat, i ≤ ns.length ∧ e 5 = .int .i64 i ∧ e 4 = bv ∧ e 1 = nv ∧ e 0 = .pointer (some ⟨q, 0, none⟩) ∧ w'.ownsRow w.heap.size 5 1 bv 512 (bufV ns i) ∧ Grow w w') (fun e _ => ns.length - (intOf (e 5)).toNat)
    ⟨0, by omega, by simp [upd, updO, ev], by simp [upd, updO, ev], by simp [upd, updO, ev], by simp [upd, updO, ev], ho5, hg5⟩ ?_
  rintro e w6 ⟨i, hi, e5, e4, e1, e0, ho6, hg6⟩
  by_cases hlt : i < ns.length
  · simp (maxSteps := 1000000) (disch := omega) only [↓sy1, sy2, sy3, readOK, sy5, sy6, Nat.reduceEqDiff, ↓reduceIte, sy7, sy8, sy9, sya, oneOf, syb, syc, Nat.reduceAdd, Nat.reduceMul, syd, sye, syf, syg, syh, reduceCtorEq, F37_L0, e5, e4, e1, e0, hlen, Int.ofNat_lt, hlt, decide_true]
    refine draw37_0 (fun _ => False) ?_
    have hgd : Grow w6 w6.drew := (Keep.refl _ _).drew
    have ho7 := own_grow ho6 hgd
    have hg7 := hg6.trans hgd
    generalize w6.drew = w7 at ho7 hg7 ⊢
    obtain ⟨a, ha, hac, _⟩ := (hn.grow hg7).getI (l := zs ns) (i := i) (by simpa using hlt)
    have hnv : (zs ns)[i]'(by simpa using hlt) = ((ns[i] : Nat) : Int) := by simp
    rw [hnv] at hac
    obtain ⟨a4, w8, ha4, hs4, ho8, hk8, _⟩ := own_store ho7 (i := 4 + 2 * i) (by omega) (u := .int .u8 (((ns[i] : Nat) : Int) / 256 % 256)) rfl
    obtain ⟨a5, w9, ha5, hs5, ho9, hk9, _⟩ := own_store ho8 (i := 5 + 2 * i) (by omega) (u := .int .u8 (((ns[i] : Nat) : Int) % 256)) rfl
    have hc4 : (4 : Int) + 2 * (i : Int) = ((4 + 2 * i : Nat) : Int) := by omega
    have hc5 : (5 : Int) + 2 * (i : Int) = ((5 + 2 * i : Nat) : Int) := by omega
    rw [bufV_succ ns hlt hl] at ho9
    simp (maxSteps := 1000000) (disch := omega) only [↓sy1, sy2, sy3, readOK, sy5, sy6, Nat.reduceEqDiff, ↓reduceIte, sy7, sy8, sy9, sya, oneOf, syb, syc, Nat.reduceAdd, Nat.reduceMul, syd, sye, syf, syg, syh, reduceCtorEq, PL37_0, e5, e4, e1, e0, hc4, hc5, ha, hac, bin_shr8, ha4, ha5, hs4, hs5]
    refine R_out ⟨⟨i + 1, by omega, rfl, ho9, (hg7.then hk8 (fun b hb h => hnew b hb h)).then hk9 (fun b hb h => hnew b hb h)⟩, ?_⟩
    simp only [intOf]; omega
  · have hie : i = ns.length := by omega
    subst hie
    rw [bufV_all] at ho6
    have hqp : ∀ {w'}, Grow w w' → w'.cell? ⟨q, 0, none⟩ = some (.pointer (some ⟨p, 0, none⟩)) := fun hg => by rw [cell_block (hg.gheap hq)]; rfl
    simp (maxSteps := 1000000) (disch := omega) only [↓sy1, sy2, sy3, readOK, sy5, sy6, Nat.reduceEqDiff, ↓reduceIte, sy7, sy8, sy9, sya, oneOf, syb, syc, Nat.reduceAdd, Nat.reduceMul, syd, sye, syf, syg, syh, reduceCtorEq, F37_L0, e5, e4, e1, e0, hlen, Int.ofNat_lt, hlt, decide_false, hqp hg6]
    refine call0 (rwrite_spec (hd.grow hg6) (n := 0) hsome (headB_length hl) (Has.own ho6) (by omega)) ?_
    rintro _ w7 ⟨rfl, G7, hd7, hx7⟩
    have hx7w : Ext (fun c => c = κ) G w G7 w7 := (Ext.grow hg6).trans hx7
    have hlog7 : RLogAt G7 κ w7 q size came (D.add (.wr 0 (headB ns))) := hlog.put (hqp (Keep.refl _ _)) hx7w rfl hd7
    obtain ⟨_, _, _, _, p', hq7, hd7'⟩ := id hlog7
    have hqp7 : w7.cell? ⟨q, 0, none⟩ = some (.pointer (some ⟨p', 0, none⟩)) := by rw [cell_block hq7]; rfl
    simp (maxSteps := 1000000) (disch := omega) only [↓sy1, sy2, sy3, readOK, sy5, sy6, Nat.reduceEqDiff, ↓reduceIte, sy7, sy8, sy9, sya, oneOf, syb, syc, Nat.reduceAdd, Nat.reduceMul, syd, sye, syf, syg, syh, reduceCtorEq, e0, hqp7]
    refine call0 (rflush_spec hd7' (by simp [Dsk.add]; omega)) ?_
    rintro _ w8 ⟨rfl, G8, hd8, hx8⟩
    simp (maxSteps := 1000000) (disch := omega) only [↓sy1, sy2, sy3, readOK, sy5, sy6, Nat.reduceEqDiff, ↓reduceIte, sy7, sy8, sy9, sya, oneOf, syb, syc, Nat.reduceAdd, Nat.reduceMul, syd, sye, syf, syg, syh, reduceCtorEq]
    exact R_out ⟨G8, hlog7.put hqp7 hx8 rfl hd8, hx7w.trans hx8⟩
theorem rhome_spec {G : Gh} {κ : Nat} {w : World} {q size came : Nat} {D : Dsk} {nv : Value} {ps : List (Nat × List UInt8)} (h : RLogAt G κ w q size came D) (hn : Held G κ w nv (ints (zs (ps.map (·.1))))) (hl : ps.length ≤ size) (hb : ∀ p ∈ ps, p.2.length = 512 ∧ size + 1 + p.1 < D.first.length)
    (himg : ∀ i (h : i < ps.length), D.image[1 + i]? = some ps[i].2) (ho : D.ops.length + ps.length < 800000) :
    Calls Tryz.prog 38 #[.pointer (some ⟨q, 0, none⟩), nv] w (Ret fun _ w' => ∃ G', RLogAt G' κ w' q size came (homed size D ps) ∧ Ext (fun c => c = κ) G w G' w') := by
  have hlen : ∀ w', lenF w' 0 nv = some (.int .i64 ps.length) := fun w' => by rw [Has.lenI hn.1]; simp
  apply enter38
  apply R_in
  simp (maxSteps := 1000000) (disch := omega) only [↓sy1, sy2, sy3, readOK, sy5, sy6, Nat.reduceEqDiff, ↓reduceIte, sy7, sy8, sy9, sya, oneOf, syb, syc, Nat.reduceAdd, Nat.reduceMul, syd, sye, syf, syg, syh, reduceCtorEq, F38]
  have hsz := h.2.2.1
  refine loop_rule (fun e w' => ∃ (i : Nat) (G' : Gh), i ≤ ps.length ∧ e 4 = .int .i64 i ∧ e 1 = nv ∧ e 0 = .pointer (some ⟨q, 0, none⟩) ∧ RLogAt G' κ w' q size came (adds D (homeOps size (ps.take i))) ∧ Ext (fun c => c = κ) G w G' w') (fun e _ => ps.length - (intOf (e 4)).toNat)
    ⟨0, G, by omega, by simp [upd, updO, ev], by simp [upd, updO, ev], by simp [upd, updO, ev], h, .refl _ _ _⟩ ?_
  rintro e w1 ⟨i, G1, hi, e4, e1, e0, h1, hx1⟩
  have hlog := h1
  obtain ⟨hκ, hs1, hs2, ho0, p, hq, hd⟩ := h1
  have hqp : ∀ {w'}, Grow w1 w' → w'.cell? ⟨q, 0, none⟩ = some (.pointer (some ⟨p, 0, none⟩)) ∧ w'.cell? ⟨q, 1, none⟩ = some (.int .i64 size) := fun hg => ⟨by rw [cell_block (hg.gheap hq)]; rfl, by rw [cell_block (hg.gheap hq)]; rfl⟩
  have hf : (adds D (homeOps size (ps.take i))).first = D.first := adds_first _ _
  have hops : (adds D (homeOps size (ps.take i))).ops.length ≤ D.ops.length + i := by
    rw [adds_ops]; simp [homeOps]; omega
  have hmost := hd.ok.most
  rw [hf] at hmost
  by_cases hlt : i < ps.length
  · simp (maxSteps := 1000000) (disch := omega) only [↓sy1, sy2, sy3, readOK, sy5, sy6, Nat.reduceEqDiff, ↓reduceIte, sy7, sy8, sy9, sya, oneOf, syb, syc, Nat.reduceAdd, Nat.reduceMul, syd, sye, syf, syg, syh, reduceCtorEq, F38_L0, e4, e1, e0, hlen, Int.ofNat_lt, hlt, decide_true, hqp (Keep.refl _ _)]
    rw [show (1 : Int) + (i : Int) = ((1 + i : Nat) : Int) from by omega]
    obtain ⟨hb1, hb2⟩ := hb ps[i] (List.getElem_mem hlt)
    refine call0 (rread_spec hd (n := 1 + i) (by rw [hf]; omega)) ?_
    rintro _ w2 ⟨u, rfl, hu, hg2⟩
    have hcur : (adds D (homeOps size (ps.take i))).image[1 + i]? = some ps[i].2 := by
      rw [image_home_other size (1 + i) _ _ (fun r hr => by omega)]; exact himg i hlt
    have hcur' : (adds D (homeOps size (ps.take i))).image[1 + i]'(by rw [Dsk.image_length, hf]; omega) = ps[i].2 := by
      rw [List.getElem?_eq_getElem (by rw [Dsk.image_length, hf]; omega)] at hcur; exact Option.some.inj hcur
    rw [hcur'] at hu
    simp (maxSteps := 1000000) (disch := omega) only [↓sy1, sy2, sy3, readOK, sy5, sy6, Nat.reduceEqDiff, ↓reduceIte, sy7, sy8, sy9, sya, oneOf, syb, syc, Nat.reduceAdd, Nat.reduceMul, syd, sye, syf, syg, syh, reduceCtorEq, e4, e1, e0]
    refine draw38_0 (fun _ => False) ?_
    have hgd : Grow w2 w2.drew := (Keep.refl _ _).drew
    have hg3 := hg2.trans hgd
    have hu3 := hu.grow hgd
    generalize w2.drew = w3 at hg3 hu3 ⊢
    obtain ⟨a, ha, hac, _⟩ := Has.getI (l := zs (ps.map (·.1))) ((hn.ext hx1).1.grow hg3) (i := i) (by simpa using hlt)
    have hnv : (zs (ps.map (·.1)))[i]'(by simpa using hlt) = ((ps[i].1 : Nat) : Int) := by simp
    rw [hnv] at hac
    simp (maxSteps := 1000000) (disch := omega) only [↓sy1, sy2, sy3, readOK, sy5, sy6, Nat.reduceEqDiff, ↓reduceIte, sy7, sy8, sy9, sya, oneOf, syb, syc, Nat.reduceAdd, Nat.reduceMul, syd, sye, syf, syg, syh, reduceCtorEq, PL38_0, e4, e1, e0, hqp hg3, ha, hac]
    rw [show (size : Int) + 1 + ((ps[i].1 : Nat) : Int) = ((size + 1 + ps[i].1 : Nat) : Int) from by omega]
    refine call0 (rwrite_spec (hd.grow hg3) (by rw [hf]; exact hb2) hb1 hu3 (by omega)) ?_
    rintro _ w4 ⟨rfl, G4, hd4, hx4⟩
    simp (maxSteps := 1000000) (disch := omega) only [↓sy1, sy2, sy3, readOK, sy5, sy6, Nat.reduceEqDiff, ↓reduceIte, sy7, sy8, sy9, sya, oneOf, syb, syc, Nat.reduceAdd, Nat.reduceMul, syd, sye, syf, syg, syh, reduceCtorEq, e4, e1, e0]
    have hx14 : Ext (fun c => c = κ) G1 w1 G4 w4 := (Ext.grow hg3).trans hx4
    have hstep : adds D (homeOps size (ps.take (i + 1))) = (adds D (homeOps size (ps.take i))).add (.wr (size + 1 + ps[i].1) ps[i].2) := by rw [homeOps_take size ps hlt, adds_snoc]
    refine R_out ⟨⟨i + 1, G4, by omega, rfl, by rw [hstep]; exact hlog.put (hqp (Keep.refl _ _)).1 hx14 rfl hd4, hx1.trans hx14⟩, ?_⟩
    simp only [intOf]; omega
  · have hie : i = ps.length := by omega
    subst hie
    rw [List.take_length] at hlog hd hops hf
    simp (maxSteps := 1000000) (disch := omega) only [↓sy1, sy2, sy3, readOK, sy5, sy6, Nat.reduceEqDiff, ↓reduceIte, sy7, sy8, sy9, sya, oneOf, syb, syc, Nat.reduceAdd, Nat.reduceMul, syd, sye, syf, syg, syh, reduceCtorEq, F38_L0, e4, e1, e0, hlen, Int.ofNat_lt, hlt, decide_false, hqp (Keep.refl _ _)]
    refine call0 (rflush_spec hd (by omega)) ?_
    rintro _ w2 ⟨rfl, G2, hd2, hx2⟩
    have hlog2 := hlog.put (E := (adds D (homeOps size ps)).add .fl) (hqp (Keep.refl _ _)).1 hx2 rfl hd2
    simp (maxSteps := 1000000) (disch := omega) only [↓sy1, sy2, sy3, readOK, sy5, sy6, Nat.reduceEqDiff, ↓reduceIte, sy7, sy8, sy9, sya, oneOf, syb, syc, Nat.reduceAdd, Nat.reduceMul, syd, sye, syf, syg, syh, reduceCtorEq, e0]
    refine call0 (rsetHead_spec (ns := []) hlog2 (Has.nil 1 w2) (by simp) (by simp [Dsk.add]; omega)) ?_
    rintro _ w3 ⟨G3, hlog3, hx3⟩
    simp (maxSteps := 1000000) (disch := omega) only [↓sy1, sy2, sy3, readOK, sy5, sy6, Nat.reduceEqDiff, ↓reduceIte, sy7, sy8, sy9, sya, oneOf, syb, syc, Nat.reduceAdd, Nat.reduceMul, syd, sye, syf, syg, syh, reduceCtorEq]
    exact R_out ⟨G3, hlog3, (hx1.trans hx2).trans hx3⟩
/-- What it tells. -/
theorem rpages_spec {G : Gh} {κ : Nat} {w : World} {q size came : Nat} {D : Dsk} (h : RLogAt G κ w q size came D) :
    Calls Tryz.prog 34 #[.pointer (some ⟨q, 0, none⟩)] w (Ret fun v w' => v = .int .i64 ((D.first.length - size - 1 : Nat) : Int) ∧ Grow w w') := by
  obtain ⟨p, hd, hc⟩ := h.cells
  have hs2 := h.2.2.1
  have hmost := hd.ok.most
  apply enter34
  apply R_in
  simp (maxSteps := 1000000) (disch := omega) only [↓sy1, sy2, sy3, readOK, sy5, sy6, Nat.reduceEqDiff, ↓reduceIte, sy7, sy8, sy9, sya, oneOf, syb, syc, Nat.reduceAdd, Nat.reduceMul, syd, sye, syf, syg, syh, reduceCtorEq, F34]
  refine draw34_0 (fun _ => False) ?_
  have hgd : Grow w w.drew := (Keep.refl _ _).drew
  generalize w.drew = w1 at hgd ⊢
  simp (maxSteps := 1000000) (disch := omega) only [↓sy1, sy2, sy3, readOK, sy5, sy6, Nat.reduceEqDiff, ↓reduceIte, sy7, sy8, sy9, sya, oneOf, syb, syc, Nat.reduceAdd, Nat.reduceMul, syd, sye, syf, syg, syh, reduceCtorEq, PL34_0, hc hgd]
  refine call0 (rsectors_spec (hd.grow hgd)) ?_
  rintro _ w2 ⟨rfl, rfl⟩
  simp (maxSteps := 1000000) (disch := omega) only [↓sy1, sy2, sy3, readOK, sy5, sy6, Nat.reduceEqDiff, ↓reduceIte, sy7, sy8, sy9, sya, oneOf, syb, syc, Nat.reduceAdd, Nat.reduceMul, syd, sye, syf, syg, syh, reduceCtorEq]
  refine ⟨Keep.refl _ _, ?_⟩
  exact R_out ⟨by congr 1; omega, hgd⟩
theorem rcapacity_spec {G : Gh} {κ : Nat} {w : World} {q size came : Nat} {D : Dsk} (h : RLogAt G κ w q size came D) :
    Calls Tryz.prog 33 #[.pointer (some ⟨q, 0, none⟩)] w (Ret fun v w' => v = .int .i64 ((min size 100 : Nat) : Int) ∧ w' = w) := by
  obtain ⟨p, hd, hc⟩ := h.cells
  apply enter33
  apply R_in
  by_cases hs : 100 < size
  · simp (maxSteps := 1000000) (disch := omega) only [↓sy1, sy2, sy3, readOK, sy5, sy6, Nat.reduceEqDiff, ↓reduceIte, sy7, sy8, sy9, sya, oneOf, syb, syc, Nat.reduceAdd, Nat.reduceMul, syd, sye, syf, syg, syh, reduceCtorEq, F33, hc (Keep.refl _ _), show ((100 : Int) < (size : Int)) from by omega, decide_true]
    exact R_out (by rw [show min size 100 = 100 from by omega]; first | exact ⟨rfl, trivial⟩ | rfl)
  · simp (maxSteps := 1000000) (disch := omega) only [↓sy1, sy2, sy3, readOK, sy5, sy6, Nat.reduceEqDiff, ↓reduceIte, sy7, sy8, sy9, sya, oneOf, syb, syc, Nat.reduceAdd, Nat.reduceMul, syd, sye, syf, syg, syh, reduceCtorEq, F33, hc (Keep.refl _ _), show ¬ ((100 : Int) < (size : Int)) from by omega, decide_false]
    exact R_out (by rw [show min size 100 = size from by omega])
theorem rcame_spec {G : Gh} {κ : Nat} {w : World} {q size came : Nat} {D : Dsk} (h : RLogAt G κ w q size came D) :
    Calls Tryz.prog 17 #[.pointer (some ⟨q, 0, none⟩)] w (Ret fun v w' => v = .int .i64 came ∧ w' = w) := by
  obtain ⟨p, hd, hc⟩ := h.cells
  apply enter17
  apply R_in
  simp (maxSteps := 1000000) (disch := omega) only [↓sy1, sy2, sy3, readOK, sy5, sy6, Nat.reduceEqDiff, ↓reduceIte, sy7, sy8, sy9, sya, oneOf, syb, syc, Nat.reduceAdd, Nat.reduceMul, syd, sye, syf, syg, syh, reduceCtorEq, F17, hc (Keep.refl _ _)]
  exact R_out trivial
theorem rldisk_spec {G : Gh} {κ : Nat} {w : World} {q size came : Nat} {D : Dsk} (κ' : Nat) (h : RLogAt G κ w q size came D) :
    Calls Tryz.prog 9 #[.pointer (some ⟨q, 0, none⟩)] w (Ret fun v w' => ∃ p G', v = .pointer (some ⟨p, 0, none⟩) ∧ w.heap.size ≤ p ∧ RefAt G' κ' w' p D ∧ Ext0 G w G' w') := by
  obtain ⟨p, hd, hc⟩ := h.cells
  apply enter9
  apply R_in
  simp (maxSteps := 1000000) (disch := omega) only [↓sy1, sy2, sy3, readOK, sy5, sy6, Nat.reduceEqDiff, ↓reduceIte, sy7, sy8, sy9, sya, oneOf, syb, syc, Nat.reduceAdd, Nat.reduceMul, syd, sye, syf, syg, syh, reduceCtorEq, F9, hc (Keep.refl _ _)]
  refine call0 (rfork_spec κ' hd) ?_
  rintro _ w1 ⟨p', G', rfl, hp, hd', hx⟩
  simp (maxSteps := 1000000) (disch := omega) only [↓sy1, sy2, sy3, readOK, sy5, sy6, Nat.reduceEqDiff, ↓reduceIte, sy7, sy8, sy9, sya, oneOf, syb, syc, Nat.reduceAdd, Nat.reduceMul, syd, sye, syf, syg, syh, reduceCtorEq]
  exact R_out ⟨p', G', rfl, hp, hd', hx⟩
end Go.Proofs.YtneehlkofcdhoaaGreat

/- What a head says, in plain words; a head of any bytes is read; a log is opened over any disk. -/
namespace Go.Proofs.YtneehlkofcdhoaaGreat
open Go
set_option linter.unusedSimpArgs false
open Go.RowKit (intOf)
def twoB (b : List UInt8) (i : Nat) : Nat := (b.getD i 0).toNat * 256 + (b.getD (i + 1) 0).toNat
theorem twoB_lt (b : List UInt8) (i : Nat) : twoB b i < 65536 := by
  have h1 := (b.getD i 0).toNat_lt
  have h2 := (b.getD (i + 1) 0).toNat_lt
  unfold twoB; omega
theorem twoB_zero (b : List UInt8) (k : Nat) : twoB (b.drop k) 0 = twoB b k := by
  simp [twoB, List.getElem?_drop]
theorem twoB_cons (x y : UInt8) (l : List UInt8) : twoB (x :: y :: l) 0 = x.toNat * 256 + y.toNat := rfl
theorem twoB_get {l : List UInt8} (h : 2 ≤ l.length) : l[0].toNat * 256 + l[1].toNat = twoB l 0 := by
  match l, h with
  | x :: y :: l, _ => rfl
def numsOf (b : List UInt8) (n : Nat) : List Nat := (List.range n).map fun i => twoB b (4 + 2 * i)
theorem numsOf_length (b : List UInt8) (n : Nat) : (numsOf b n).length = n := by simp [numsOf]
theorem numsOf_succ (b : List UInt8) (i : Nat) : numsOf b (i + 1) = numsOf b i ++ [twoB b (4 + 2 * i)] := by simp [numsOf, List.range_succ]
theorem numsOf_take (b : List UInt8) {n i : Nat} (h : i ≤ n) : (numsOf b n).take i = numsOf b i := by simp [numsOf, ← List.map_take, List.take_range, Nat.min_eq_left h]
def goodN (pages : Nat) (l : List Nat) : Prop := l.Pairwise (· < ·) ∧ ∀ p ∈ l, p < pages
instance (pages : Nat) (l : List Nat) : Decidable (goodN pages l) := by unfold goodN; infer_instance
def lastI (l : List Nat) : Int := match l.getLast? with | some x => (x : Int) | none => -1
theorem lastI_snoc (l : List Nat) (p : Nat) : lastI (l ++ [p]) = p := by simp [lastI]
theorem goodN_nil (pages : Nat) : goodN pages [] := ⟨List.Pairwise.nil, fun _ h => by simp at h⟩
theorem goodN_take {pages : Nat} {l : List Nat} (h : goodN pages l) (i : Nat) : goodN pages (l.take i) := ⟨h.1.sublist (List.take_sublist ..), fun p hp => h.2 p (List.mem_of_mem_take hp)⟩
theorem goodN_snoc {pages : Nat} {l : List Nat} {p : Nat} : goodN pages (l ++ [p]) ↔ goodN pages l ∧ lastI l < p ∧ p < pages := by
  constructor
  · rintro ⟨h1, h2⟩
    rw [List.pairwise_append] at h1
    refine ⟨⟨h1.1, fun q hq => h2 q (by simp [hq])⟩, ?_, h2 p (by simp)⟩
    unfold lastI
    split
    · rename_i x hx
      have := h1.2.2 x (List.mem_of_getLast? hx) p (by simp); omega
    · omega
  · rintro ⟨⟨h1, h2⟩, h3, h4⟩
    refine ⟨List.pairwise_append.2 ⟨h1, by simp, fun a ha c hc => ?_⟩, fun q hq => ?_⟩
    · simp at hc; subst hc
      obtain ⟨i, hi, rfl⟩ := List.getElem_of_mem ha
      have hne : l ≠ [] := fun h => by simp [h] at hi
      unfold lastI at h3
      rw [List.getLast?_eq_some_getLast hne] at h3
      simp only [List.getLast_eq_getElem] at h3
      by_cases hl : i = l.length - 1
      · subst hl; omega
      · have := List.pairwise_iff_getElem.1 h1 i (l.length - 1) hi (by omega) (by omega); omega
    · rcases List.mem_append.1 hq with hq | hq
      · exact h2 q hq
      · simp at hq; omega
open Classical in
/-- The numbers that a head has; none: it is no head. -/
noncomputable def headOf (cap pages : Nat) (b : List UInt8) : Option (List Nat) :=
  if ∀ x ∈ b, x = 0 then some []
  else if b.getD 0 0 = 0x44 ∧ b.getD 1 0 = 0x4e ∧ twoB b 2 ≤ cap ∧ (∀ x ∈ b.drop (4 + 2 * twoB b 2), x = 0) ∧ goodN pages (numsOf b (twoB b 2)) then some (numsOf b (twoB b 2)) else none
theorem headOf_zsec (cap pages : Nat) : headOf cap pages zsec = some [] := by
  have h : ∀ x ∈ zsec, x = 0 := fun x hx => (List.mem_replicate.1 hx).2
  rw [headOf, if_pos h]
theorem headOf_good {cap pages : Nat} {b : List UInt8} {ns : List Nat} (h : headOf cap pages b = some ns) : goodN pages ns ∧ ns.length ≤ cap := by
  unfold headOf at h
  split at h
  · cases h; exact ⟨goodN_nil _, Nat.zero_le _⟩
  · split at h
    · rename_i hc; cases h; exact ⟨hc.2.2.2.2, by rw [numsOf_length]; exact hc.2.2.1⟩
    · cases h
theorem headOf_headB {cap pages : Nat} {ns : List Nat} (hc : cap ≤ 100) (hl : ns.length ≤ cap) (hp : pages ≤ 65536) (hg : goodN pages ns) : headOf cap pages (headB ns) = some ns := by
  have h2 : twoB (headB ns) 2 = ns.length := by
    obtain ⟨r, hr⟩ := headB_two ns
    rw [← twoB_zero, hr, twoB_cons, hi_lo (by omega)]
  have hn : numsOf (headB ns) ns.length = ns := by
    refine List.ext_getElem (numsOf_length _ _) fun i h1 h2 => ?_
    simp only [numsOf, List.getElem_map, List.getElem_range]
    obtain ⟨r, hr⟩ := headB_at ns h2
    rw [← twoB_zero, hr, twoB_cons, hi_lo (by have := hg.2 _ (List.getElem_mem h2); omega)]
  rw [headOf, if_neg (fun h => absurd (h 0x44 (by simp [headB])) (by decide)), h2, hn, if_pos ⟨rfl, rfl, hl, by rw [headB_tail]; exact fun x hx => (List.mem_replicate.1 hx).2, hg⟩]
theorem u8_68 {b : UInt8} (h : (b.toNat : Int) = 68) : b = 0x44 := UInt8.toNat_inj.1 (by have h2 : b.toNat = 68 := by omega
                                                                                         rw [h2]; rfl)
theorem u8_78 {b : UInt8} (h : (b.toNat : Int) = 78) : b = 0x4e := UInt8.toNat_inj.1 (by have h2 : b.toNat = 78 := by omega
                                                                                         rw [h2]; rfl)
noncomputable def Dsk.head (size : Nat) (D : Dsk) : Option (List Nat) := headOf (min size 100) (D.first.length - size - 1) (D.image.getD 0 [])
theorem Dsk.image0 {D : Dsk} (h : D.Ok) : D.image.getD 0 [] = D.image[0]'(by rw [D.image_length]; exact h.some) := by
  rw [List.getD_eq_getElem?_getD, List.getElem?_eq_getElem]; rfl
/-- What head answers. -/
def HeadRes (B : Nat) (o : Option (List Nat)) (v : Value) (w' : World) : Prop := match o with
  | some ns => ∃ u, v = .tuple #[u, .bool true] ∧ w'.ownsRow B 3 1 u ns.length (ints (zs ns))
  | none => v = .tuple #[.slice none 0 0, .bool false]
set_option maxHeartbeats 1000000 in
theorem headg_spec {G : Gh} {κ : Nat} {w : World} {q size came : Nat} {D : Dsk} (h : LogAt G κ w q size came D) :
    Calls Tryz.prog 48 #[.pointer (some ⟨q, 0, none⟩)] w (Ret fun v w' => HeadRes w.heap.size (D.head size) v w' ∧ Grow w w') := by
  obtain ⟨p, hd, hc⟩ := h.cells
  have hs2 := h.2.2.1
  have hmost := hd.ok.most
  have hb512 : (D.image.getD 0 []).length = 512 := by rw [Dsk.image0 hd.ok]; exact hd.ok.image _ (List.getElem_mem _)
  unfold Dsk.head
  generalize hbb : D.image.getD 0 [] = bb at hb512 ⊢
  rw [Dsk.image0 hd.ok] at hbb
  apply enter48
  apply R_in
  simp (maxSteps := 600000) (disch := omega) only [F48, ↓sy1, sy2, sy3, readOK, sy5, sy6, Nat.reduceEqDiff, ↓reduceIte, sy7, sy8, sy9, sya, oneOf, syb, syc, Nat.reduceAdd, Nat.reduceMul, syd, sye, syf, syg, syh, reduceCtorEq, hc (Keep.refl _ _)]
  refine call0 (read_spec hd (n := 0) (by omega)) ?_
  rintro _ w1 ⟨b, rfl, hb, hg1⟩
  rw [hbb] at hb
  have hB := Has.own hb
  simp (maxSteps := 600000) (disch := omega) only [↓sy1, sy2, sy3, readOK, sy5, sy6, Nat.reduceEqDiff, ↓reduceIte, sy7, sy8, sy9, sya, oneOf, syb, syc, Nat.reduceAdd, Nat.reduceMul, syd, sye, syf, syg, syh, reduceCtorEq]
  refine call0 (zeros_spec hB (by omega)) ?_
  rintro v w2 ⟨⟨hall, rfl⟩ | ⟨hno, rfl⟩, rfl⟩
  · simp (maxSteps := 600000) (disch := omega) only [↓sy1, sy2, sy3, readOK, sy5, sy6, Nat.reduceEqDiff, ↓reduceIte, sy7, sy8, sy9, sya, oneOf, syb, syc, Nat.reduceAdd, Nat.reduceMul, syd, sye, syf, syg, syh, reduceCtorEq]
    refine R_out ?_
    rw [headOf, if_pos hall]
    exact ⟨⟨_, rfl, World.ownsRow_nil _ _ _ _⟩, hg1⟩
  obtain ⟨v2, hv2, hH2⟩ := hB.slcFrom (m := 2) (by rw [bs_length]; omega)
  rw [bs_drop] at hH2
  have hv2' : slcF 1 b (some (.int .i64 2)) none none = some v2 := hv2
  simp (maxSteps := 600000) (disch := omega) only [↓sy1, sy2, sy3, readOK, sy5, sy6, Nat.reduceEqDiff, ↓reduceIte, sy7, sy8, sy9, sya, oneOf, syb, syc, Nat.reduceAdd, Nat.reduceMul, syd, sye, syf, syg, syh, reduceCtorEq, hv2']
  refine call0 (two_spec hH2 (by rw [List.length_drop]; omega)) ?_
  rintro _ w3 ⟨rfl, hg3⟩
  rw [twoB_get (by rw [List.length_drop]; omega), twoB_zero]
  have hB3 := hB.grow hg3
  obtain ⟨a0, ha0, hac0, _⟩ := hB3.getB (i := 0) (by omega)
  obtain ⟨a1, ha1, hac1, _⟩ := hB3.getB (i := 1) (by omega)
  have hb0 : bb[0] = bb.getD 0 0 := by rw [List.getD_eq_getElem?_getD, List.getElem?_eq_getElem]; rfl
  have hb1 : bb[1] = bb.getD 1 0 := by rw [List.getD_eq_getElem?_getD, List.getElem?_eq_getElem]; rfl
  rw [hb0] at hac0
  rw [hb1] at hac1
  have ha0' : iaF 1 b (.int .i64 0) = some (.pointer (some a0)) := ha0
  have ha1' : iaF 1 b (.int .i64 1) = some (.pointer (some a1)) := ha1
  have hbad : ∀ {w' : World}, Grow w w' → ¬ (bb.getD 0 0 = 0x44 ∧ bb.getD 1 0 = 0x4e ∧ twoB bb 2 ≤ min size 100 ∧ (∀ x ∈ bb.drop (4 + 2 * twoB bb 2), x = 0) ∧ goodN (D.first.length - size - 1) (numsOf bb (twoB bb 2))) →
      R (HeadRes w.heap.size (headOf (min size 100) (D.first.length - size - 1) bb) (.tuple #[.slice none 0 0, .bool false]) w' ∧ Grow w w') := fun {w'} hg hn => by
    refine R_out ?_
    rw [headOf, if_neg hno, if_neg hn]
    exact ⟨rfl, hg⟩
  have hn2 := twoB_lt bb 2
  generalize hn : twoB bb 2 = n at hn2 hbad ⊢
  by_cases c0 : bb.getD 0 0 = 0x44
  rotate_left
  · have c0' : ¬ (((bb.getD 0 0).toNat : Int) = 68) := fun hc => c0 (u8_68 hc)
    simp (maxSteps := 600000) (disch := omega) only [↓sy1, sy2, sy3, readOK, sy5, sy6, Nat.reduceEqDiff, ↓reduceIte, sy7, sy8, sy9, sya, oneOf, syb, syc, Nat.reduceAdd, Nat.reduceMul, syd, sye, syf, syg, syh, reduceCtorEq, ha0', hac0, c0', decide_false]
    exact hbad (hg1.trans hg3) (fun hc => c0 hc.1)
  have c0' : (((bb.getD 0 0).toNat : Int) = 68) = True := by rw [c0]; simp
  by_cases c1 : bb.getD 1 0 = 0x4e
  rotate_left
  · have c1' : ¬ (((bb.getD 1 0).toNat : Int) = 78) := fun hc => c1 (u8_78 hc)
    simp (maxSteps := 600000) (disch := omega) only [↓sy1, sy2, sy3, readOK, sy5, sy6, Nat.reduceEqDiff, ↓reduceIte, sy7, sy8, sy9, sya, oneOf, syb, syc, Nat.reduceAdd, Nat.reduceMul, syd, sye, syf, syg, syh, reduceCtorEq, ha0', hac0, c0', ha1', hac1, c1', decide_false, decide_true]
    exact hbad (hg1.trans hg3) (fun hc => c1 hc.2.1)
  have c1' : (((bb.getD 1 0).toNat : Int) = 78) = True := by rw [c1]; simp
  simp (maxSteps := 600000) (disch := omega) only [↓sy1, sy2, sy3, readOK, sy5, sy6, Nat.reduceEqDiff, ↓reduceIte, sy7, sy8, sy9, sya, oneOf, syb, syc, Nat.reduceAdd, Nat.reduceMul, syd, sye, syf, syg, syh, reduceCtorEq, ha0', hac0, c0', ha1', hac1, c1', decide_true]
  refine call0 (capacity_spec (h.grow (hg1.trans hg3))) ?_
  rintro _ w4 ⟨rfl, rfl⟩
  by_cases c2 : n ≤ min size 100
  rotate_left
  · have c2' : ((min size 100 : Nat) : Int) < (n : Int) := by omega
    simp (maxSteps := 600000) (disch := omega) only [↓sy1, sy2, sy3, readOK, sy5, sy6, Nat.reduceEqDiff, ↓reduceIte, sy7, sy8, sy9, sya, oneOf, syb, syc, Nat.reduceAdd, Nat.reduceMul, syd, sye, syf, syg, syh, reduceCtorEq, c2', decide_true]
    exact hbad (hg1.trans hg3) (fun hc => c2 hc.2.2.1)
  obtain ⟨v5, hv5, hH5⟩ := hB3.slcFrom (m := 4 + 2 * n) (by rw [bs_length]; omega)
  rw [bs_drop] at hH5
  have hcast5 : (4 : Int) + 2 * (n : Int) = ((4 + 2 * n : Nat) : Int) := by omega
  have hng : ¬ (((min size 100 : Nat) : Int) < (n : Int)) := by omega
  simp (maxSteps := 600000) (disch := omega) only [↓sy1, sy2, sy3, readOK, sy5, sy6, Nat.reduceEqDiff, ↓reduceIte, sy7, sy8, sy9, sya, oneOf, syb, syc, Nat.reduceAdd, Nat.reduceMul, syd, sye, syf, syg, syh, reduceCtorEq, hng, decide_false, hcast5, hv5]
  refine call0 (zeros_spec hH5 (by simp; omega)) ?_
  rintro v w5 ⟨⟨c3, rfl⟩ | ⟨c3, rfl⟩, rfl⟩
  rotate_left
  · simp (maxSteps := 600000) (disch := omega) only [↓sy1, sy2, sy3, readOK, sy5, sy6, Nat.reduceEqDiff, ↓reduceIte, sy7, sy8, sy9, sya, oneOf, syb, syc, Nat.reduceAdd, Nat.reduceMul, syd, sye, syf, syg, syh, reduceCtorEq]
    exact hbad (hg1.trans hg3) (fun hc => c3 hc.2.2.2.1)
  simp (maxSteps := 600000) (disch := omega) only [↓sy1, sy2, sy3, readOK, sy5, sy6, Nat.reduceEqDiff, ↓reduceIte, sy7, sy8, sy9, sya, oneOf, syb, syc, Nat.reduceAdd, Nat.reduceMul, syd, sye, syf, syg, syh, reduceCtorEq]
  have hb5 := own_grow hb hg3
  have hg15 := hg1.trans hg3
  refine loop_rule (fun e w' => ∃ (i : Nat) (out : Value), i ≤ n ∧ e 51 = .int .i64 i ∧ e 50 = .int .i64 n ∧ e 4 = b ∧ e 0 = .pointer (some ⟨q, 0, none⟩) ∧ e 7 = .int .i64 (lastI (numsOf bb i)) ∧ e 8 = out ∧ goodN (D.first.length - size - 1) (numsOf bb i) ∧
      w'.ownsRow w.heap.size 3 1 out i (ints (zs (numsOf bb i))) ∧ w'.ownsRow w.heap.size 5 1 b 512 (bs bb) ∧ Grow w w') (fun e _ => n - (intOf (e 51)).toNat)
    ⟨0, .slice none 0 0, by omega, by simp [upd, updO, ev], by simp [upd, updO, ev], by simp [upd, updO, ev], by simp [upd, updO, ev], by simp [upd, updO, ev, lastI, numsOf], by simp [upd, updO, ev], goodN_nil _, World.ownsRow_nil w5 _ _ _, by rw [← hb512]; rw [← hb512] at hb5; exact hb5, hg15⟩ ?_
  rintro e w6 ⟨i, out, hi', e51, e50, e4, e0, e7, e8, hgd, hown, hb6, hg6⟩
  have hB6 := Has.own hb6
  by_cases hlt : i < n
  · obtain ⟨v7, hv7, hH7⟩ := hB6.slcFrom (m := 4 + 2 * i) (by rw [bs_length]; omega)
    rw [bs_drop] at hH7
    have hcast7 : (4 : Int) + 2 * (i : Int) = ((4 + 2 * i : Nat) : Int) := by omega
    have hsn := goodN_snoc (pages := D.first.length - size - 1) (l := numsOf bb i) (p := twoB bb (4 + 2 * i))
    rw [← numsOf_succ] at hsn
    have hup : goodN (D.first.length - size - 1) (numsOf bb n) → goodN (D.first.length - size - 1) (numsOf bb (i + 1)) := fun hg => by
      rw [← numsOf_take bb (show i + 1 ≤ n from hlt)]; exact goodN_take hg _
    have h7 := twoB_lt bb (4 + 2 * i)
    have hsucc := numsOf_succ bb i
    simp (maxSteps := 600000) (disch := omega) only [F48_L0, ↓sy1, sy2, sy3, readOK, sy5, sy6, Nat.reduceEqDiff, ↓reduceIte, sy7, sy8, sy9, sya, oneOf, syb, syc, Nat.reduceAdd, Nat.reduceMul, syd, sye, syf, syg, syh, reduceCtorEq, e51, e50, e4, e0, e7, e8, Int.ofNat_lt, hlt, decide_true, hcast7, hv7]
    refine call0 (two_spec hH7 (by rw [List.length_drop]; omega)) ?_
    rintro _ w7 ⟨rfl, hg7⟩
    rw [twoB_get (by rw [List.length_drop]; omega), twoB_zero]
    generalize twoB bb (4 + 2 * i) = p7 at h7 hsucc hsn ⊢
    by_cases hlast : (p7 : Int) ≤ lastI (numsOf bb i)
    · simp (maxSteps := 600000) (disch := omega) only [↓sy1, sy2, sy3, readOK, sy5, sy6, Nat.reduceEqDiff, ↓reduceIte, sy7, sy8, sy9, sya, oneOf, syb, syc, Nat.reduceAdd, Nat.reduceMul, syd, sye, syf, syg, syh, reduceCtorEq, e51, e50, e4, e0, e7, e8, hlast, decide_true]
      exact hbad (hg6.trans hg7) (fun hc => by have := (hsn.1 (hup hc.2.2.2.2)).2.1; omega)
    simp (maxSteps := 600000) (disch := omega) only [↓sy1, sy2, sy3, readOK, sy5, sy6, Nat.reduceEqDiff, ↓reduceIte, sy7, sy8, sy9, sya, oneOf, syb, syc, Nat.reduceAdd, Nat.reduceMul, syd, sye, syf, syg, syh, reduceCtorEq, e51, e50, e4, e0, e7, e8, hlast, decide_false]
    refine call0 (pages_spec (h.grow (hg6.trans hg7))) ?_
    rintro _ w8 ⟨rfl, hg8⟩
    by_cases hpp : ((D.first.length - size - 1 : Nat) : Int) ≤ (p7 : Int)
    · simp (maxSteps := 600000) (disch := omega) only [↓sy1, sy2, sy3, readOK, sy5, sy6, Nat.reduceEqDiff, ↓reduceIte, sy7, sy8, sy9, sya, oneOf, syb, syc, Nat.reduceAdd, Nat.reduceMul, syd, sye, syf, syg, syh, reduceCtorEq, e51, e50, e4, e0, e7, e8, hpp, decide_true]
      exact hbad ((hg6.trans hg7).trans hg8) (fun hc => by have := (hsn.1 (hup hc.2.2.2.2)).2.2; omega)
    simp (maxSteps := 600000) (disch := omega) only [↓sy1, sy2, sy3, readOK, sy5, sy6, Nat.reduceEqDiff, ↓reduceIte, sy7, sy8, sy9, sya, oneOf, syb, syc, Nat.reduceAdd, Nat.reduceMul, syd, sye, syf, syg, syh, reduceCtorEq, e51, e50, e4, e0, e7, e8, hpp, decide_false]
    have hown8 := own_grow hown (hg7.trans hg8)
    have hga : Grow w8 (w8.alloc (.cells #[.int .i64 (p7 : Int)] 3)) := (Keep.refl _ _).alloc _
    refine app_own elemI (by simp only [upd_at, Nat.reduceEqDiff, reduceIte, ev_tmp, ev_const, List.map_cons, List.map_nil, e8]) (by simp only [upd_at, Nat.reduceEqDiff, reduceIte, ev_tmp, ev_const, List.map_cons, List.map_nil]) (own_grow hown8 hga) Has.new1 (m := 1) rfl (by simp [isCell]) (by omega) (by omega) (by have := ((hg6.trans hg7).trans hg8).size; simp; omega) ?_
    intro out' w9 ho9 hg9
    simp (maxSteps := 600000) (disch := omega) only [↓sy1, sy2, sy3, readOK, sy5, sy6, Nat.reduceEqDiff, ↓reduceIte, sy7, sy8, sy9, sya, oneOf, syb, syc, Nat.reduceAdd, Nat.reduceMul, syd, sye, syf, syg, syh, reduceCtorEq, e51, e50, e4, e0]
    have hgw : Grow w w9 := (((hg6.trans hg7).trans hg8).trans hga).then (Keep.grown hg9) (fun bb hbb hs => by
      obtain ⟨hbl, _⟩ := World.ownsRow.lt hown8 bb hs.symm; omega)
    have hb8 := own_grow hb6 (hg7.trans hg8)
    have hk9 := (Keep.refl (fun bb => some bb = out.ownBlock) w8).trans (((Keep.refl _ _).alloc (.cells #[.int .i64 (p7 : Int)] 3)).trans (Keep.grown hg9))
    have hb9 := own_keep hb8 hk9 (fun bb hbb hs => own_ne hown8 hb8 (by decide) hs.symm hbb)
    refine R_out ⟨⟨i + 1, out', by omega, rfl, ?_, rfl, hsn.2 ⟨hgd, by omega, by omega⟩, ?_, hb9, hgw⟩, ?_⟩
    · rw [hsucc, lastI_snoc]
    · have hts : ints (zs (numsOf bb (i + 1))) = ints (zs (numsOf bb i)) ++ [.int .i64 (p7 : Int)] := by
        rw [hsucc, zs, List.map_append, ints, List.map_append]; rfl
      rw [hts]; exact ho9
    · simp only [intOf]; omega
  · have hie : i = n := by omega
    subst hie
    simp (maxSteps := 600000) (disch := omega) only [F48_L0, ↓sy1, sy2, sy3, readOK, sy5, sy6, Nat.reduceEqDiff, ↓reduceIte, sy7, sy8, sy9, sya, oneOf, syb, syc, Nat.reduceAdd, Nat.reduceMul, syd, sye, syf, syg, syh, reduceCtorEq, e51, e50, e4, e0, e7, e8, Int.ofNat_lt, hlt, decide_false]
    refine R_out ?_
    rw [headOf, if_neg hno, hn, if_pos ⟨c0, c1, c2, c3, hgd⟩]
    rw [← numsOf_length bb i] at hown
    exact ⟨⟨out, rfl, by simpa [numsOf_length] using hown⟩, hg6⟩
end Go.Proofs.YtneehlkofcdhoaaGreat

/- A log is opened over any disk. -/
namespace Go.Proofs.YtneehlkofcdhoaaGreat
open Go
set_option linter.unusedSimpArgs false
open Go.RowKit (intOf)
/-- The copies of a head's pages. -/
def pairsOf (D : Dsk) (ns : List Nat) : List (Nat × List UInt8) := ns.zipIdx.map fun p => (p.1, D.image.getD (1 + p.2) [])
theorem pairsOf_length (D : Dsk) (ns : List Nat) : (pairsOf D ns).length = ns.length := by simp [pairsOf]
theorem pairsOf_get (D : Dsk) (ns : List Nat) {i : Nat} (h : i < (pairsOf D ns).length) : (pairsOf D ns)[i] = (ns[i]'(by rw [pairsOf_length] at h; exact h), D.image.getD (1 + i) []) := by
  simp [pairsOf]
theorem pairsOf_fst (D : Dsk) (ns : List Nat) : (pairsOf D ns).map (·.1) = ns := by
  refine List.ext_getElem (by simp [pairsOf]) fun i h1 h2 => ?_
  rw [List.getElem_map, pairsOf_get]
/-- The disk of a log that is opened, and how many pages came; none: it is broken. -/
noncomputable def opened (size : Nat) (D : Dsk) : Option (Dsk × Nat) := (D.head size).map fun ns => (if ns = [] then D else homed size D (pairsOf D ns), ns.length)
theorem opened_none {size : Nat} {D : Dsk} (h : D.head size = none) : opened size D = none := by simp [opened, h]
theorem opened_nil {size : Nat} {D : Dsk} (h : D.head size = some []) : opened size D = some (D, 0) := by simp [opened, h]
theorem opened_some {size : Nat} {D : Dsk} {ns : List Nat} (h : D.head size = some ns) (hn : ns ≠ []) : opened size D = some (homed size D (pairsOf D ns), ns.length) := by simp [opened, h, hn]
theorem pairsOf_ok {size : Nat} {D : Dsk} {ns : List Nat} (hok : D.Ok) (h : D.head size = some ns) (h2 : size + 2 ≤ D.first.length) :
    (pairsOf D ns).length ≤ size ∧ (∀ p ∈ pairsOf D ns, p.2.length = 512 ∧ size + 1 + p.1 < D.first.length) ∧ ∀ i (h : i < (pairsOf D ns).length), D.image[1 + i]? = some (pairsOf D ns)[i].2 := by
  obtain ⟨⟨hr, hp⟩, hl⟩ := headOf_good h
  have hlen := pairsOf_length D ns
  have himg : ∀ i, i < ns.length → D.image[1 + i]? = some (D.image.getD (1 + i) []) := fun i hi => by
    have : 1 + i < D.image.length := by rw [D.image_length]; omega
    rw [List.getD_eq_getElem?_getD, List.getElem?_eq_getElem this]; rfl
  refine ⟨by omega, fun p hpm => ?_, fun i hi => ?_⟩
  · obtain ⟨i, hi, rfl⟩ := List.getElem_of_mem hpm
    rw [pairsOf_get]
    rw [hlen] at hi
    have h3 := hp ns[i] (List.getElem_mem hi)
    have h4 := List.mem_of_getElem? (himg i hi)
    exact ⟨hok.image _ h4, by simp only; omega⟩
  · rw [pairsOf_get]
    exact himg i (by omega)
/-- What Open answers. -/
def OpenRes (G : Gh) (κ' : Nat) (w : World) (size : Nat) (o : Option (Dsk × Nat)) (v : Value) (w' : World) : Prop := match o with
  | some (E, came) => ∃ q G', v = .tuple #[.pointer (some ⟨q, 0, none⟩), .int .i64 0] ∧ w.heap.size ≤ q ∧ LogAt G' κ' w' q size came E ∧ Ext (fun c => c = κ') G w G' w'
  | none => v = .tuple #[.pointer none, .int .i64 9] ∧ Grow w w'
set_option maxHeartbeats 1000000 in
theorem openg_spec {G : Gh} {κ : Nat} {w : World} {p size : Nat} {D : Dsk} (κ' : Nat) (hκ : κ' ≠ 0) (h : DiskAt G κ w p D) (h1 : 1 ≤ size) (h2 : size + 2 ≤ D.first.length) (ho : D.ops.length < 700000) :
    Calls Tryz.prog 13 #[.pointer (some ⟨p, 0, none⟩), .int .i64 size] w (Ret fun v w' => OpenRes G κ' w size (opened size D) v w') := by
  have hmost := h.ok.most
  have hok := h.ok
  apply enter13
  apply R_in
  simp (maxSteps := 600000) (disch := omega) only [F13, ↓sy1, sy2, sy3, readOK, sy5, sy6, Nat.reduceEqDiff, ↓reduceIte, sy7, sy8, sy9, sya, oneOf, syb, syc, Nat.reduceAdd, Nat.reduceMul, syd, sye, syf, syg, syh, reduceCtorEq, show ¬ ((size : Int) < 1) from by omega, decide_false]
  refine call0 (sectors_spec h) ?_
  rintro _ w0 ⟨rfl, rfl⟩
  simp (maxSteps := 600000) (disch := omega) only [↓sy1, sy2, sy3, readOK, sy5, sy6, Nat.reduceEqDiff, ↓reduceIte, sy7, sy8, sy9, sya, oneOf, syb, syc, Nat.reduceAdd, Nat.reduceMul, syd, sye, syf, syg, syh, reduceCtorEq, show ¬ ((D.first.length : Int) - 2 < (size : Int)) from by omega, decide_false]
  refine call0 (fork_spec κ' h) ?_
  rintro _ w1 ⟨p', G1, rfl, hp1, hd1, hx1⟩
  have hcp : isCell (.pointer (some ⟨p', 0, none⟩)) = true := rfl
  have hg2 : Grow w1 (w1.alloc (.cells #[.pointer (some ⟨p', 0, none⟩), .int .i64 size, .int .i64 0] 74)) := (Keep.refl _ _).alloc _
  have hb2 := heap_alloc_new w1 (.cells #[.pointer (some ⟨p', 0, none⟩), .int .i64 size, .int .i64 0] 74)
  generalize hw2 : w1.alloc (.cells #[.pointer (some ⟨p', 0, none⟩), .int .i64 size, .int .i64 0] 74) = w2 at hg2 hb2
  simp (maxSteps := 600000) (disch := omega) only [↓sy1, sy2, sy3, readOK, sy5, sy6, Nat.reduceEqDiff, ↓reduceIte, sy7, sy8, sy9, sya, oneOf, syb, syc, Nat.reduceAdd, Nat.reduceMul, syd, sye, syf, syg, syh, reduceCtorEq, oneF_cell hcp, fill_gen, fillF_log (a := .pointer none) (b := .int .i64 0) (c := .int .i64 0) hcp (show isCell (.int .i64 (size : Int)) = true from rfl), agg3_cells hcp (show isCell (.int .i64 (size : Int)) = true from rfl) (show isCell (.int .i64 0) = true from rfl), hw2]
  have hq1 : w0.heap.size ≤ w1.heap.size := hx1.size
  have hx2 : Ext0 G1 w1 (G1.new w1.heap.size) w2 := .newB hg2
  have hno : ∀ b, w1.heap.size ≤ b → (G1.new w1.heap.size).own b = 0 ∧ (G1.new w1.heap.size).fix b = 0 := fun b hb => ⟨Gh.new_own hb, by simp [Gh.upto, Nat.not_lt.2 hb]⟩
  have hd2 := hd1.ext hx2 id
  have hlog : LogAt (G1.new w1.heap.size) κ' w2 w1.heap.size size 0 D := ⟨hκ, h1, h2, (hno _ (Nat.le_refl _)).1, p', hb2, hd2⟩
  refine call0 (headg_spec hlog) ?_
  rintro v w3 ⟨hv, hg3⟩
  have hg13 := hg2.trans hg3
  have hx13 : Ext0 G w0 (G1.new w1.heap.size) w3 := hx1.trans (.newB hg13)
  cases hh : D.head size with
  | none =>
    rw [hh] at hv
    obtain rfl := hv
    rw [opened_none hh]
    simp (maxSteps := 600000) (disch := omega) only [↓sy1, sy2, sy3, readOK, sy5, sy6, Nat.reduceEqDiff, ↓reduceIte, sy7, sy8, sy9, sya, oneOf, syb, syc, Nat.reduceAdd, Nat.reduceMul, syd, sye, syf, syg, syh, reduceCtorEq]
    exact R_out ⟨rfl, hx13.growG⟩
  | some ns =>
    rw [hh] at hv
    obtain ⟨u, rfl, hu⟩ := hv
    obtain ⟨k1, k2, k3⟩ := pairsOf_ok hok hh h2
    rw [pairsOf_length] at k1
    have hlu : ∀ w3, lenF w3 0 u = some (.int .i64 ns.length) := fun w3 => by rw [(Has.own hu).lenI]; simp
    have hb3 := hg3.gheap hb2
    obtain ⟨w4, hst, hb4, hk4⟩ := cell_store hb3 (i := 2) (by simp) (u := .int .i64 ns.length) rfl
    have hb4' : w4.heap[w1.heap.size]? = some (.cells #[.pointer (some ⟨p', 0, none⟩), .int .i64 size, .int .i64 ns.length] 74 (0, 0)) := by simpa using hb4
    have hc4 : w4.cell? ⟨w1.heap.size, 2, none⟩ = some (.int .i64 ns.length) := by rw [cell_block hb4']; rfl
    have hg14 : Grow w1 w4 := hg13.then hk4 (fun b hb h => by omega)
    have hx4 : Ext (fun c => c = 0) (G1.new w1.heap.size) w3 (G1.new w1.heap.size) w4 := .on0 hk4 (hno _ (Nat.le_refl _)).1 (hno _ (Nat.le_refl _)).2
    have hd4 := (hd2.grow hg3).ext hx4 hκ
    have hlog4 : LogAt (G1.new w1.heap.size) κ' w4 w1.heap.size size ns.length D := ⟨hκ, h1, h2, (hno _ (Nat.le_refl _)).1, p', hb4', hd4⟩
    have hxw : Ext0 G w0 (G1.new w1.heap.size) w4 := hx1.trans (.newB hg14)
    by_cases hne : ns = []
    · subst hne
      rw [opened_nil hh]
      have hlu0 : ∀ w3, lenF w3 0 u = some (.int .i64 0) := hlu
      have hst0 : stF w3 (.pointer (some ⟨w1.heap.size, 2, none⟩)) (.int .i64 0) = some (undef, w4) := hst
      have hc40 : w4.cell? ⟨w1.heap.size, 2, none⟩ = some (.int .i64 0) := hc4
      simp (maxSteps := 600000) (disch := omega) only [↓sy1, sy2, sy3, readOK, sy5, sy6, Nat.reduceEqDiff, ↓reduceIte, sy7, sy8, sy9, sya, oneOf, syb, syc, Nat.reduceAdd, Nat.reduceMul, syd, sye, syf, syg, syh, reduceCtorEq, hlu0, hst0, hc40, show ¬ ((0 : Int) < 0) from by omega, decide_false]
      exact R_out ⟨w1.heap.size, G1.new w1.heap.size, rfl, hq1, hlog4, hxw.mono (fun _ h => h.elim)⟩
    · rw [opened_some hh hne]
      have hpos : 0 < ns.length := List.length_pos_iff.2 hne
      simp (maxSteps := 600000) (disch := omega) only [↓sy1, sy2, sy3, readOK, sy5, sy6, Nat.reduceEqDiff, ↓reduceIte, sy7, sy8, sy9, sya, oneOf, syb, syc, Nat.reduceAdd, Nat.reduceMul, syd, sye, syf, syg, syh, reduceCtorEq, hlu, hst, hc4, show ((0 : Int) < (ns.length : Int)) from by omega, decide_true]
      have hug : HasI w4 u (zs ns) := (Has.own hu).keep hk4 (fun b hb _ hbq => by
        have hbl := (World.ownsRow.lt hu b hb).1
        have := (Array.getElem?_eq_some_iff.1 hb2).1
        omega)
      have hheld : Held (G1.new w1.heap.size) κ' w4 u (ints (zs ((pairsOf D ns).map (·.1)))) := by
        rw [pairsOf_fst]
        refine ⟨hug, fun b hb _ => ?_⟩
        obtain ⟨hbb, hbl⟩ := World.ownsRow.lt hu b hb
        exact ⟨Nat.lt_of_lt_of_le hbl hk4.size, by rw [(hno b (Nat.le_trans hg2.size hbb)).1]; exact fun h => hκ h.symm⟩
      refine call0 (home_spec hlog4 hheld (by rw [pairsOf_length]; exact k1) k2 k3 (by rw [pairsOf_length]; omega)) ?_
      rintro _ w5 ⟨G5, hlog5, hx5⟩
      simp (maxSteps := 600000) (disch := omega) only [↓sy1, sy2, sy3, readOK, sy5, sy6, Nat.reduceEqDiff, ↓reduceIte, sy7, sy8, sy9, sya, oneOf, syb, syc, Nat.reduceAdd, Nat.reduceMul, syd, sye, syf, syg, syh, reduceCtorEq]
      exact R_out ⟨w1.heap.size, G5, rfl, hq1, hlog5, (hxw.mono (fun _ h => h.elim)).trans hx5⟩
end Go.Proofs.YtneehlkofcdhoaaGreat

/- The reference's log: a head of any bytes is read; it is opened over any disk. -/
namespace Go.Proofs.YtneehlkofcdhoaaGreat
open Go
set_option linter.unusedSimpArgs false
open Go.RowKit (intOf)
theorem rtwo_spec {w : World} {u : Value} {l : List UInt8} {i : Nat} (h : HasB w u l) (hi : i + 1 < l.length) (hl : l.length ≤ 4096) :
    Calls Tryz.prog 74 #[u, .int .i64 i] w (Ret fun v w' => v = .int .i64 (twoB l i : Int) ∧ Grow w w') := by
  apply enter74
  apply R_in
  simp (maxSteps := 1000000) (disch := omega) only [↓sy1, sy2, sy3, readOK, sy5, sy6, Nat.reduceEqDiff, ↓reduceIte, sy7, sy8, sy9, sya, oneOf, syb, syc, Nat.reduceAdd, Nat.reduceMul, syd, sye, syf, syg, syh, reduceCtorEq, F74]
  refine draw74_0 (fun _ => False) ?_
  have hgd : Grow w w.drew := (Keep.refl _ _).drew
  have h1 := h.grow hgd
  generalize w.drew = w1 at hgd h1 ⊢
  obtain ⟨a, ha, hac, _⟩ := h1.getB (i := i) (by omega)
  obtain ⟨b, hb, hbc, _⟩ := h1.getB (i := i + 1) (by omega)
  have hb' : iaF 1 u (.int .i64 ((i : Int) + 1)) = some (.pointer (some b)) := hb
  have hx : l[i] = l.getD i 0 := by rw [List.getD_eq_getElem?_getD, List.getElem?_eq_getElem]; rfl
  have hy : l[i + 1] = l.getD (i + 1) 0 := by rw [List.getD_eq_getElem?_getD, List.getElem?_eq_getElem]; rfl
  rw [hx] at hac
  rw [hy] at hbc
  have hl0 := (l.getD i 0).toNat_lt
  have hl1 := (l.getD (i + 1) 0).toNat_lt
  unfold twoB
  generalize (l.getD i 0).toNat = x at hac hl0 ⊢
  generalize (l.getD (i + 1) 0).toNat = y at hbc hl1 ⊢
  simp (maxSteps := 1000000) (disch := omega) only [↓sy1, sy2, sy3, readOK, sy5, sy6, Nat.reduceEqDiff, ↓reduceIte, sy7, sy8, sy9, sya, oneOf, syb, syc, Nat.reduceAdd, Nat.reduceMul, syd, sye, syf, syg, syh, reduceCtorEq, PL74_0, ha, hac, hb', hbc, bin_shl8, bin_or8]
  exact R_out hgd
set_option maxHeartbeats 2000000 in
theorem rheadg_spec {G : Gh} {κ : Nat} {w : World} {q size came : Nat} {D : Dsk} (h : RLogAt G κ w q size came D) :
    Calls Tryz.prog 50 #[.pointer (some ⟨q, 0, none⟩)] w (Ret fun v w' => HeadRes w.heap.size (D.head size) v w' ∧ Grow w w') := by
  obtain ⟨p, hd, hc⟩ := h.cells
  have hs2 := h.2.2.1
  have hmost := hd.ok.most
  have hb512 : (D.image.getD 0 []).length = 512 := by rw [Dsk.image0 hd.ok]; exact hd.ok.image _ (List.getElem_mem _)
  unfold Dsk.head
  generalize hbb : D.image.getD 0 [] = bb at hb512 ⊢
  rw [Dsk.image0 hd.ok] at hbb
  apply enter50
  apply R_in
  simp (maxSteps := 1000000) (disch := omega) only [↓sy1, sy2, sy3, readOK, sy5, sy6, Nat.reduceEqDiff, ↓reduceIte, sy7, sy8, sy9, sya, oneOf, syb, syc, Nat.reduceAdd, Nat.reduceMul, syd, sye, syf, syg, syh, reduceCtorEq, F50, hc (Keep.refl _ _)]
  refine call0 (rread_spec hd (n := 0) (by omega)) ?_
  rintro _ w1 ⟨b, rfl, hb, hg1⟩
  rw [hbb] at hb
  have hlen : ∀ w', lenF w' 0 b = some (.int .i64 512) := fun w' => by rw [hb.lenB, hb512]; rfl
  simp (maxSteps := 1000000) (disch := omega) only [↓sy1, sy2, sy3, readOK, sy5, sy6, Nat.reduceEqDiff, ↓reduceIte, sy7, sy8, sy9, sya, oneOf, syb, syc, Nat.reduceAdd, Nat.reduceMul, syd, sye, syf, syg, syh, reduceCtorEq]
  have hbad : ∀ {w' : World}, Grow w w' → (¬ ∀ x ∈ bb, x = 0) → ¬ (bb.getD 0 0 = 0x44 ∧ bb.getD 1 0 = 0x4e ∧ twoB bb 2 ≤ min size 100 ∧ (∀ x ∈ bb.drop (4 + 2 * twoB bb 2), x = 0) ∧ goodN (D.first.length - size - 1) (numsOf bb (twoB bb 2))) →
      R (HeadRes w.heap.size (headOf (min size 100) (D.first.length - size - 1) bb) (.tuple #[.slice none 0 0, .bool false]) w' ∧ Grow w w') := fun {w'} hg hno hn => by
    refine R_out ?_
    rw [headOf, if_neg hno, if_neg hn]
    exact ⟨rfl, hg⟩
  refine loop_rule (fun e w' => ∃ (i : Nat) (z : Bool), i ≤ 512 ∧ e 7 = .int .i64 i ∧ e 6 = .bool z ∧ (z = true ↔ ∀ x ∈ bb.take i, x = 0) ∧ e 4 = b ∧ e 0 = .pointer (some ⟨q, 0, none⟩) ∧ w' = w1) (fun e _ => 512 - (intOf (e 7)).toNat)
    ⟨0, true, by omega, by simp [upd, updO, ev], by simp [upd, updO, ev], by simp, by simp [upd, updO, ev], by simp [upd, updO, ev], rfl⟩ ?_
  rintro e w2 ⟨i, z, hi, e7, e6, hz, e4, e0, rfl⟩
  by_cases hlt : i < 512
  · have htk : bb.take (i + 1) = bb.take i ++ [bb[i]'(by omega)] := List.take_succ_eq_append_getElem (by omega)
    have hallz : (∀ x ∈ bb.take (i + 1), x = 0) ↔ (∀ x ∈ bb.take i, x = 0) ∧ bb[i]'(by omega) = 0 := by
      rw [htk]
      constructor
      · exact fun h => ⟨fun x hx => h x (List.mem_append_left _ hx), h _ (List.mem_append_right _ (List.mem_singleton.2 rfl))⟩
      · rintro ⟨h1, h2⟩ x hx
        rcases List.mem_append.1 hx with hx | hx
        · exact h1 x hx
        · simp at hx; subst hx; exact h2
    cases z with
    | true =>
      obtain ⟨a, ha, hac, _⟩ := hb.getB (i := i) (by omega)
      by_cases h0 : bb[i]'(by omega) = 0
      · simp (maxSteps := 1000000) (disch := omega) only [↓sy1, sy2, sy3, readOK, sy5, sy6, Nat.reduceEqDiff, ↓reduceIte, sy7, sy8, sy9, sya, oneOf, syb, syc, Nat.reduceAdd, Nat.reduceMul, syd, sye, syf, syg, syh, reduceCtorEq, F50_L0, e7, e6, e4, e0, hlen, show ((i : Int) < 512) from by omega, decide_true, ha, hac, show (((bb[i]'(by omega)).toNat : Int) = 0) = True from by simp [h0]]
        refine R_out ⟨⟨i + 1, true, by omega, rfl, rfl, by rw [hallz]; simp [h0, hz.1 rfl]; exact hz.1 rfl⟩, ?_⟩
        simp only [intOf]; omega
      · have h0' : ¬ (((bb[i]'(by omega)).toNat : Int) = 0) := fun hc => h0 (UInt8.toNat_inj.1 (by simpa using hc))
        simp (maxSteps := 1000000) (disch := omega) only [↓sy1, sy2, sy3, readOK, sy5, sy6, Nat.reduceEqDiff, ↓reduceIte, sy7, sy8, sy9, sya, oneOf, syb, syc, Nat.reduceAdd, Nat.reduceMul, syd, sye, syf, syg, syh, reduceCtorEq, F50_L0, e7, e6, e4, e0, hlen, show ((i : Int) < 512) from by omega, decide_true, ha, hac, h0', decide_false]
        refine R_out ⟨⟨i + 1, false, by omega, rfl, rfl, by rw [hallz]; simp [h0]⟩, ?_⟩
        simp only [intOf]; omega
    | false =>
      simp (maxSteps := 1000000) (disch := omega) only [↓sy1, sy2, sy3, readOK, sy5, sy6, Nat.reduceEqDiff, ↓reduceIte, sy7, sy8, sy9, sya, oneOf, syb, syc, Nat.reduceAdd, Nat.reduceMul, syd, sye, syf, syg, syh, reduceCtorEq, F50_L0, e7, e6, e4, e0, hlen, show ((i : Int) < 512) from by omega, decide_true]
      refine R_out ⟨⟨i + 1, false, by omega, rfl, rfl, ?_⟩, ?_⟩
      · rw [hallz]; simp only [Bool.false_eq_true, false_iff] at hz ⊢
        exact fun h => hz h.1
      · simp only [intOf]; omega
  have hie : i = 512 := by omega
  subst hie
  rw [List.take_of_length_le (by omega)] at hz
  cases z with
  | true =>
    have hall := hz.1 rfl
    simp (maxSteps := 1000000) (disch := omega) only [↓sy1, sy2, sy3, readOK, sy5, sy6, Nat.reduceEqDiff, ↓reduceIte, sy7, sy8, sy9, sya, oneOf, syb, syc, Nat.reduceAdd, Nat.reduceMul, syd, sye, syf, syg, syh, reduceCtorEq, F50_L0, e7, e6, e4, e0, hlen, show ¬ (((512 : Nat) : Int) < 512) from by omega, decide_false]
    refine R_out ?_
    rw [headOf, if_pos hall]
    exact ⟨⟨_, rfl, World.ownsRow_nil _ _ _ _⟩, hg1⟩
  | false =>
    have hno : ¬ ∀ x ∈ bb, x = 0 := by simpa using hz
    simp (maxSteps := 1000000) (disch := omega) only [↓sy1, sy2, sy3, readOK, sy5, sy6, Nat.reduceEqDiff, ↓reduceIte, sy7, sy8, sy9, sya, oneOf, syb, syc, Nat.reduceAdd, Nat.reduceMul, syd, sye, syf, syg, syh, reduceCtorEq, F50_L0, e7, e6, e4, e0, hlen, show ¬ (((512 : Nat) : Int) < 512) from by omega, decide_false]
    refine call0 (rtwo_spec (i := 2) hb (by omega) (by omega)) ?_
    rintro _ w3 ⟨rfl, hg3⟩
    have hB3 := hb.grow hg3
    obtain ⟨a0, ha0, hac0, _⟩ := hB3.getB (i := 0) (by omega)
    obtain ⟨a1, ha1, hac1, _⟩ := hB3.getB (i := 1) (by omega)
    have hb0 : bb[0] = bb.getD 0 0 := by rw [List.getD_eq_getElem?_getD, List.getElem?_eq_getElem]; rfl
    have hb1 : bb[1] = bb.getD 1 0 := by rw [List.getD_eq_getElem?_getD, List.getElem?_eq_getElem]; rfl
    rw [hb0] at hac0
    rw [hb1] at hac1
    have ha0' : iaF 1 b (.int .i64 0) = some (.pointer (some a0)) := ha0
    have ha1' : iaF 1 b (.int .i64 1) = some (.pointer (some a1)) := ha1
    have hn2 := twoB_lt bb 2
    generalize hn : twoB bb 2 = n at hn2 hbad ⊢
    by_cases c0 : ¬ (bb.getD 0 0 = 0x44)
    · have c0' : ¬ (((bb.getD 0 0).toNat : Int) = 68) := fun hc => c0 (u8_68 hc)
      simp (maxSteps := 1000000) (disch := omega) only [↓sy1, sy2, sy3, readOK, sy5, sy6, Nat.reduceEqDiff, ↓reduceIte, sy7, sy8, sy9, sya, oneOf, syb, syc, Nat.reduceAdd, Nat.reduceMul, syd, sye, syf, syg, syh, reduceCtorEq, e4, e0, ha0', hac0, c0', decide_false]
      exact hbad (hg1.trans hg3) hno (fun hc => c0 hc.1)
    have c0 := Decidable.of_not_not c0
    have c0' : (((bb.getD 0 0).toNat : Int) = 68) = True := by rw [c0]; simp
    by_cases c1 : ¬ (bb.getD 1 0 = 0x4e)
    · have c1' : ¬ (((bb.getD 1 0).toNat : Int) = 78) := fun hc => c1 (u8_78 hc)
      simp (maxSteps := 1000000) (disch := omega) only [↓sy1, sy2, sy3, readOK, sy5, sy6, Nat.reduceEqDiff, ↓reduceIte, sy7, sy8, sy9, sya, oneOf, syb, syc, Nat.reduceAdd, Nat.reduceMul, syd, sye, syf, syg, syh, reduceCtorEq, e4, e0, ha0', hac0, c0', ha1', hac1, c1', decide_false, decide_true]
      exact hbad (hg1.trans hg3) hno (fun hc => c1 hc.2.1)
    have c1 := Decidable.of_not_not c1
    have c1' : (((bb.getD 1 0).toNat : Int) = 78) = True := by rw [c1]; simp
    simp (maxSteps := 1000000) (disch := omega) only [↓sy1, sy2, sy3, readOK, sy5, sy6, Nat.reduceEqDiff, ↓reduceIte, sy7, sy8, sy9, sya, oneOf, syb, syc, Nat.reduceAdd, Nat.reduceMul, syd, sye, syf, syg, syh, reduceCtorEq, e4, e0, ha0', hac0, c0', ha1', hac1, c1', decide_true]
    refine call0 (rcapacity_spec (h.grow (hg1.trans hg3))) ?_
    rintro _ w4 ⟨rfl, rfl⟩
    by_cases c2 : ¬ (n ≤ min size 100)
    · have c2' : ((min size 100 : Nat) : Int) < (n : Int) := by omega
      simp (maxSteps := 1000000) (disch := omega) only [↓sy1, sy2, sy3, readOK, sy5, sy6, Nat.reduceEqDiff, ↓reduceIte, sy7, sy8, sy9, sya, oneOf, syb, syc, Nat.reduceAdd, Nat.reduceMul, syd, sye, syf, syg, syh, reduceCtorEq, e4, e0, c2', decide_true]
      exact hbad (hg1.trans hg3) hno (fun hc => c2 hc.2.2.1)
    have c2 := Decidable.of_not_not c2
    have hng : ¬ (((min size 100 : Nat) : Int) < (n : Int)) := by omega
    simp (maxSteps := 1000000) (disch := omega) only [↓sy1, sy2, sy3, readOK, sy5, sy6, Nat.reduceEqDiff, ↓reduceIte, sy7, sy8, sy9, sya, oneOf, syb, syc, Nat.reduceAdd, Nat.reduceMul, syd, sye, syf, syg, syh, reduceCtorEq, e4, e0, hng, decide_false]
    have hg15 := hg1.trans hg3
    refine loop_rule (fun e w' => ∃ (i : Nat) (out : Value), i ≤ n ∧ e 10 = .int .i64 i ∧ e 8 = .int .i64 n ∧ e 4 = b ∧ e 0 = .pointer (some ⟨q, 0, none⟩) ∧ e 9 = out ∧ goodN (D.first.length - size - 1) (numsOf bb i) ∧
        w'.ownsRow w4.heap.size 3 1 out i (ints (zs (numsOf bb i))) ∧ Grow w4 w') (fun e _ => n - (intOf (e 10)).toNat)
      ⟨0, .slice none 0 0, by omega, by simp [upd, updO, ev], by simp [upd, updO, ev], by simp [upd, updO, ev, e4], by simp [upd, updO, ev, e0], by simp [upd, updO, ev], goodN_nil _, World.ownsRow_nil w4 _ _ _, Keep.refl _ _⟩ ?_
    clear e7 e6 e4 e0
    rintro e w6 ⟨i, out, hi', e10, e8, e4, e0, e9, hgd, hown, hg6⟩
    have hg06 := hg15.trans hg6
    have hB6 := hB3.grow hg6
    by_cases hlt : i < n
    · have hsn := goodN_snoc (pages := D.first.length - size - 1) (l := numsOf bb i) (p := twoB bb (4 + 2 * i))
      rw [← numsOf_succ] at hsn
      have hup : goodN (D.first.length - size - 1) (numsOf bb n) → goodN (D.first.length - size - 1) (numsOf bb (i + 1)) := fun hg => by
        rw [← numsOf_take bb (show i + 1 ≤ n from hlt)]; exact goodN_take hg _
      have h7 := twoB_lt bb (4 + 2 * i)
      have hsucc := numsOf_succ bb i
      have hcast7 : (4 : Int) + 2 * (i : Int) = ((4 + 2 * i : Nat) : Int) := by omega
      simp (maxSteps := 1000000) (disch := omega) only [↓sy1, sy2, sy3, readOK, sy5, sy6, Nat.reduceEqDiff, ↓reduceIte, sy7, sy8, sy9, sya, oneOf, syb, syc, Nat.reduceAdd, Nat.reduceMul, syd, sye, syf, syg, syh, reduceCtorEq, F50_L1, e10, e8, e4, e0, e9, Int.ofNat_lt, hlt, decide_true, hcast7]
      refine call0 (rtwo_spec (i := 4 + 2 * i) hB6 (by omega) (by omega)) ?_
      rintro _ w7 ⟨rfl, hg7⟩
      generalize twoB bb (4 + 2 * i) = p7 at h7 hsucc hsn ⊢
      simp (maxSteps := 1000000) (disch := omega) only [↓sy1, sy2, sy3, readOK, sy5, sy6, Nat.reduceEqDiff, ↓reduceIte, sy7, sy8, sy9, sya, oneOf, syb, syc, Nat.reduceAdd, Nat.reduceMul, syd, sye, syf, syg, syh, reduceCtorEq, e10, e8, e4, e0, e9]
      refine call0 (rpages_spec (h.grow (hg06.trans hg7))) ?_
      rintro _ w8 ⟨rfl, hg8⟩
      have hg08 := (hg06.trans hg7).trans hg8
      by_cases hpp : ((D.first.length - size - 1 : Nat) : Int) ≤ (p7 : Int)
      · simp (maxSteps := 1000000) (disch := omega) only [↓sy1, sy2, sy3, readOK, sy5, sy6, Nat.reduceEqDiff, ↓reduceIte, sy7, sy8, sy9, sya, oneOf, syb, syc, Nat.reduceAdd, Nat.reduceMul, syd, sye, syf, syg, syh, reduceCtorEq, e10, e8, e4, e0, e9, hpp, decide_true]
        exact hbad hg08 hno (fun hc => by have := (hsn.1 (hup hc.2.2.2.2)).2.2; omega)
      have hown8 := own_grow hown (hg7.trans hg8)
      have hga : Grow w8 (w8.alloc (.cells #[.int .i64 (p7 : Int)] 3)) := (Keep.refl _ _).alloc _
      have hs68 := ((hg6.trans hg7).trans hg8).size
      -- the number rises
      have hfin : ∀ {k' : Kont}, True := fun {_} => trivial
      by_cases h0 : i = 0
      all_goals first
        | (have hl0 : lastI (numsOf bb i) = -1 := by rw [h0]; rfl
           simp (maxSteps := 1000000) (disch := omega) only [↓sy1, sy2, sy3, readOK, sy5, sy6, Nat.reduceEqDiff, ↓reduceIte, sy7, sy8, sy9, sya, oneOf, syb, syc, Nat.reduceAdd, Nat.reduceMul, syd, sye, syf, syg, syh, reduceCtorEq, e10, e8, e4, e0, e9, hpp, decide_false, show ¬ ((0 : Int) < (i : Int)) from by omega])
        | (obtain ⟨al, hal, halc, _⟩ := Has.getI (l := zs (numsOf bb i)) (Has.own hown8) (i := i - 1) (by simp [numsOf_length]; omega)
           have hlast : lastI (numsOf bb i) = (zs (numsOf bb i))[i - 1]'(by simp [numsOf_length]; omega) := by
             have hne : numsOf bb i ≠ [] := fun hc => by have := numsOf_length bb i; rw [hc] at this; simp at this; omega
             unfold lastI
             rw [List.getLast?_eq_some_getLast hne, List.getLast_eq_getElem]
             simp [numsOf_length]
           rw [← hlast] at halc
           rw [show ((i - 1 : Nat) : Int) = (i : Int) - 1 from by omega] at hal
           by_cases hle : (p7 : Int) ≤ lastI (numsOf bb i)
           · simp (maxSteps := 1000000) (disch := omega) only [↓sy1, sy2, sy3, readOK, sy5, sy6, Nat.reduceEqDiff, ↓reduceIte, sy7, sy8, sy9, sya, oneOf, syb, syc, Nat.reduceAdd, Nat.reduceMul, syd, sye, syf, syg, syh, reduceCtorEq, e10, e8, e4, e0, e9, hpp, decide_false, show ((0 : Int) < (i : Int)) from by omega, hal, halc, hle, decide_true]
             exact hbad hg08 hno (fun hc => by have := (hsn.1 (hup hc.2.2.2.2)).2.1; omega)
           simp (maxSteps := 1000000) (disch := omega) only [↓sy1, sy2, sy3, readOK, sy5, sy6, Nat.reduceEqDiff, ↓reduceIte, sy7, sy8, sy9, sya, oneOf, syb, syc, Nat.reduceAdd, Nat.reduceMul, syd, sye, syf, syg, syh, reduceCtorEq, e10, e8, e4, e0, e9, hpp, decide_false, show ((0 : Int) < (i : Int)) from by omega, hal, halc, hle, decide_true])
      all_goals
        refine app_own elemI (by simp only [upd_at, Nat.reduceEqDiff, reduceIte, ev_tmp, ev_const, List.map_cons, List.map_nil, e9]) (by simp only [upd_at, Nat.reduceEqDiff, reduceIte, ev_tmp, ev_const, List.map_cons, List.map_nil]) (own_grow hown8 hga) Has.new1 (m := 1) rfl (by simp [isCell]) (by omega) (by omega) (by simp; omega) ?_
        intro out' w9 ho9 hg9
        simp (maxSteps := 1000000) (disch := omega) only [↓sy1, sy2, sy3, readOK, sy5, sy6, Nat.reduceEqDiff, ↓reduceIte, sy7, sy8, sy9, sya, oneOf, syb, syc, Nat.reduceAdd, Nat.reduceMul, syd, sye, syf, syg, syh, reduceCtorEq, e10, e8, e4, e0]
        have hgw : Grow w4 w9 := (((hg6.trans hg7).trans hg8).trans hga).then (Keep.grown hg9) (fun bb hbb hs => by
          obtain ⟨hbl, _⟩ := World.ownsRow.lt hown8 bb hs.symm; omega)
        refine R_out ⟨⟨i + 1, out', by omega, rfl, rfl, hsn.2 ⟨hgd, by omega, by omega⟩, ?_, hgw⟩, ?_⟩
        · have hts : ints (zs (numsOf bb (i + 1))) = ints (zs (numsOf bb i)) ++ [.int .i64 (p7 : Int)] := by
            rw [hsucc, zs, List.map_append, ints, List.map_append]; rfl
          rw [hts]; exact ho9
        · simp only [intOf]; omega
    · have hie : i = n := by omega
      subst hie
      simp (maxSteps := 1000000) (disch := omega) only [↓sy1, sy2, sy3, readOK, sy5, sy6, Nat.reduceEqDiff, ↓reduceIte, sy7, sy8, sy9, sya, oneOf, syb, syc, Nat.reduceAdd, Nat.reduceMul, syd, sye, syf, syg, syh, reduceCtorEq, F50_L1, e10, e8, e4, e0, e9, show ¬ ((i : Int) < (i : Int)) from by omega, decide_false]
      refine loop_rule (fun e w' => ∃ j : Nat, 4 + 2 * i ≤ j ∧ j ≤ 512 ∧ e 12 = .int .i64 j ∧ e 4 = b ∧ e 9 = out ∧ (∀ m (hm : m < bb.length), 4 + 2 * i ≤ m → m < j → bb[m] = 0) ∧ w' = w6) (fun e _ => 512 - (intOf (e 12)).toNat)
        ⟨4 + 2 * i, by omega, by omega, by simp [upd, updO, ev], by simp [upd, updO, ev, e4], by simp [upd, updO, ev, e9], fun m hm h1 h2 => by omega, rfl⟩ ?_
      clear e10 e8 e4 e0 e9
      rintro e w7 ⟨j, hj1, hj2, e12, e4, e9, hzero, rfl⟩
      by_cases hj : j < 512
      · obtain ⟨a, ha, hac, _⟩ := hB6.getB (i := j) (by omega)
        by_cases h0 : bb[j]'(by omega) = 0
        · simp (maxSteps := 1000000) (disch := omega) only [↓sy1, sy2, sy3, readOK, sy5, sy6, Nat.reduceEqDiff, ↓reduceIte, sy7, sy8, sy9, sya, oneOf, syb, syc, Nat.reduceAdd, Nat.reduceMul, syd, sye, syf, syg, syh, reduceCtorEq, F50_L2, e12, e4, e9, hlen, show ((j : Int) < 512) from by omega, decide_true, ha, hac, show (((bb[j]'(by omega)).toNat : Int) = 0) = True from by simp [h0], Bool.not_true]
          refine R_out ⟨⟨j + 1, by omega, by omega, rfl, fun m hm h1 h2 => ?_⟩, ?_⟩
          · by_cases hmj : m = j
            · subst hmj; exact h0
            · exact hzero m hm h1 (by omega)
          · simp only [intOf]; omega
        · have h0' : ¬ (((bb[j]'(by omega)).toNat : Int) = 0) := fun hc => h0 (UInt8.toNat_inj.1 (by simpa using hc))
          simp (maxSteps := 1000000) (disch := omega) only [↓sy1, sy2, sy3, readOK, sy5, sy6, Nat.reduceEqDiff, ↓reduceIte, sy7, sy8, sy9, sya, oneOf, syb, syc, Nat.reduceAdd, Nat.reduceMul, syd, sye, syf, syg, syh, reduceCtorEq, F50_L2, e12, e4, e9, hlen, show ((j : Int) < 512) from by omega, decide_true, ha, hac, h0', decide_false, Bool.not_false]
          exact hbad hg06 hno (fun hc => h0 (hc.2.2.2.1 _ (List.mem_iff_getElem.2 ⟨j - (4 + 2 * i), by rw [List.length_drop]; omega, by rw [List.getElem_drop]; congr 1; omega⟩)))
      · have hj5 : j = 512 := by omega
        subst hj5
        simp (maxSteps := 1000000) (disch := omega) only [↓sy1, sy2, sy3, readOK, sy5, sy6, Nat.reduceEqDiff, ↓reduceIte, sy7, sy8, sy9, sya, oneOf, syb, syc, Nat.reduceAdd, Nat.reduceMul, syd, sye, syf, syg, syh, reduceCtorEq, F50_L2, e12, e4, e9, hlen, show ¬ (((512 : Nat) : Int) < 512) from by omega, decide_false]
        refine R_out ?_
        have c3 : ∀ x ∈ bb.drop (4 + 2 * i), x = 0 := fun x hx => by
          obtain ⟨m, hm, rfl⟩ := List.getElem_of_mem hx
          rw [List.getElem_drop]
          rw [List.length_drop] at hm
          exact hzero _ (by omega) (by omega) (by omega)
        rw [headOf, if_neg hno, hn, if_pos ⟨c0, c1, c2, c3, hgd⟩]
        exact ⟨⟨out, rfl, by rw [numsOf_length]; exact own_base hown hg15.size⟩, hg06⟩
end Go.Proofs.YtneehlkofcdhoaaGreat

/- The reference's log is opened over any disk. -/
namespace Go.Proofs.YtneehlkofcdhoaaGreat
open Go
set_option linter.unusedSimpArgs false
open Go.RowKit (intOf)
theorem Ext.then0 {K S : Nat → Prop} {G G' : Gh} {w w' w'' : World} (hx : Ext K G w G' w') (hk : Keep S w' w'') (hs : ∀ b, b < w.heap.size → ¬ S b) : Ext K G w G' w'' :=
  ⟨hk.os.trans hx.os, hk.tape.trans hx.tape, hk.output.trans hx.output, Nat.le_trans hx.size hk.size, hx.own, hx.fix, hx.fixe, fun b hb hn => (hk.blk b (Nat.lt_of_lt_of_le hb hx.size) (hs b hb)).trans (hx.blk b hb hn), fun b i u hb hi hc => hk.cell (hx.pre b i u hb hi hc) (hs b hb)⟩
/-- What the reference's Open answers. -/
def ROpenRes (G : Gh) (κ' : Nat) (w : World) (size : Nat) (o : Option (Dsk × Nat)) (v : Value) (w' : World) : Prop := match o with
  | some (E, came) => ∃ q G', v = .tuple #[.pointer (some ⟨q, 0, none⟩), .int .i64 0] ∧ w.heap.size ≤ q ∧ RLogAt G' κ' w' q size came E ∧ Ext (fun c => c = κ') G w G' w'
  | none => v = .tuple #[.pointer none, .int .i64 9] ∧ Grow w w'
set_option maxHeartbeats 1000000 in
theorem ropeng_spec {G : Gh} {κ : Nat} {w : World} {p size : Nat} {D : Dsk} (κ' : Nat) (hκ : κ' ≠ 0) (h : RefAt G κ w p D) (h1 : 1 ≤ size) (h2 : size + 2 ≤ D.first.length) (ho : D.ops.length < 700000) :
    Calls Tryz.prog 14 #[.pointer (some ⟨p, 0, none⟩), .int .i64 size] w (Ret fun v w' => ROpenRes G κ' w size (opened size D) v w') := by
  have hmost := h.ok.most
  have hok := h.ok
  apply enter14
  apply R_in
  simp (maxSteps := 1000000) (disch := omega) only [↓sy1, sy2, sy3, readOK, sy5, sy6, Nat.reduceEqDiff, ↓reduceIte, sy7, sy8, sy9, sya, oneOf, syb, syc, Nat.reduceAdd, Nat.reduceMul, syd, sye, syf, syg, syh, reduceCtorEq, F14, show ¬ ((size : Int) < 1) from by omega, decide_false]
  refine call0 (rsectors_spec h) ?_
  rintro _ w0 ⟨rfl, rfl⟩
  simp (maxSteps := 1000000) (disch := omega) only [↓sy1, sy2, sy3, readOK, sy5, sy6, Nat.reduceEqDiff, ↓reduceIte, sy7, sy8, sy9, sya, oneOf, syb, syc, Nat.reduceAdd, Nat.reduceMul, syd, sye, syf, syg, syh, reduceCtorEq, show ¬ ((D.first.length : Int) - 2 < (size : Int)) from by omega, decide_false]
  refine call0 (rfork_spec κ' h) ?_
  rintro _ w1 ⟨p', G1, rfl, hp1, hd1, hx1⟩
  simp (maxSteps := 1000000) (disch := omega) only [↓sy1, sy2, sy3, readOK, sy5, sy6, Nat.reduceEqDiff, ↓reduceIte, sy7, sy8, sy9, sya, oneOf, syb, syc, Nat.reduceAdd, Nat.reduceMul, syd, sye, syf, syg, syh, reduceCtorEq, fill_gen, List.map_cons, List.map_nil, fillF_rlog (a := .pointer none) (b := .int .i64 0) (c := .int .i64 0) (x := .pointer (some ⟨p', 0, none⟩)) (y := .int .i64 size) rfl rfl, agg3_cells (x := .pointer (some ⟨p', 0, none⟩)) (y := .int .i64 size) (z := .int .i64 0) rfl rfl rfl]
  have hg2 : Grow w1 (w1.alloc (.cells #[.pointer (some ⟨p', 0, none⟩), .int .i64 size, .int .i64 0] 79)) := (Keep.refl _ _).alloc _
  have hb2 := heap_alloc_new w1 (.cells #[.pointer (some ⟨p', 0, none⟩), .int .i64 size, .int .i64 0] 79)
  generalize w1.alloc (.cells #[.pointer (some ⟨p', 0, none⟩), .int .i64 size, .int .i64 0] 79) = w2 at hg2 hb2 ⊢
  have hq1 : w0.heap.size ≤ w1.heap.size := hx1.size
  have hx2 : Ext0 G1 w1 (G1.new w1.heap.size) w2 := .newB hg2
  have hno : ∀ b, w1.heap.size ≤ b → (G1.new w1.heap.size).own b = 0 ∧ (G1.new w1.heap.size).fix b = 0 := fun b hb => ⟨Gh.new_own hb, by simp [Gh.upto, Nat.not_lt.2 hb]⟩
  have hd2 := hd1.ext hx2 id
  have hlog : RLogAt (G1.new w1.heap.size) κ' w2 w1.heap.size size 0 D := ⟨hκ, h1, h2, (hno _ (Nat.le_refl _)).1, p', hb2, hd2⟩
  refine call0 (rheadg_spec hlog) ?_
  rintro v w3 ⟨hv, hg3⟩
  have hg13 := hg2.trans hg3
  have hx13 : Ext0 G w0 (G1.new w1.heap.size) w3 := hx1.trans (.newB hg13)
  cases hh : D.head size with
  | none =>
    rw [hh] at hv
    obtain rfl := hv
    rw [opened_none hh]
    simp (maxSteps := 1000000) (disch := omega) only [↓sy1, sy2, sy3, readOK, sy5, sy6, Nat.reduceEqDiff, ↓reduceIte, sy7, sy8, sy9, sya, oneOf, syb, syc, Nat.reduceAdd, Nat.reduceMul, syd, sye, syf, syg, syh, reduceCtorEq]
    exact R_out ⟨rfl, hx13.growG⟩
  | some ns =>
    rw [hh] at hv
    obtain ⟨u, rfl, hu⟩ := hv
    obtain ⟨k1, k2, k3⟩ := pairsOf_ok hok hh h2
    rw [pairsOf_length] at k1
    have hlu : ∀ w3, lenF w3 0 u = some (.int .i64 ns.length) := fun w3 => by rw [(Has.own hu).lenI]; simp
    have hlog3 := hlog.grow hg3
    by_cases hne : ns = []
    · subst hne
      rw [opened_nil hh]
      have hlu0 : ∀ w3, lenF w3 0 u = some (.int .i64 0) := hlu
      simp (maxSteps := 1000000) (disch := omega) only [↓sy1, sy2, sy3, readOK, sy5, sy6, Nat.reduceEqDiff, ↓reduceIte, sy7, sy8, sy9, sya, oneOf, syb, syc, Nat.reduceAdd, Nat.reduceMul, syd, sye, syf, syg, syh, reduceCtorEq, hlu0, show ¬ ((0 : Int) < 0) from by omega, decide_false]
      exact R_out ⟨w1.heap.size, G1.new w1.heap.size, rfl, hq1, hlog3, hx13.mono (fun _ h => h.elim)⟩
    · rw [opened_some hh hne]
      have hpos : 0 < ns.length := List.length_pos_iff.2 hne
      simp (maxSteps := 1000000) (disch := omega) only [↓sy1, sy2, sy3, readOK, sy5, sy6, Nat.reduceEqDiff, ↓reduceIte, sy7, sy8, sy9, sya, oneOf, syb, syc, Nat.reduceAdd, Nat.reduceMul, syd, sye, syf, syg, syh, reduceCtorEq, hlu, show ((0 : Int) < (ns.length : Int)) from by omega, decide_true]
      have hheld : Held (G1.new w1.heap.size) κ' w3 u (ints (zs ((pairsOf D ns).map (·.1)))) := by
        rw [pairsOf_fst]
        refine ⟨Has.own hu, fun b hb _ => ?_⟩
        obtain ⟨hbb, hbl⟩ := World.ownsRow.lt hu b hb
        exact ⟨hbl, by rw [(hno b (Nat.le_trans hg2.size hbb)).1]; exact fun h => hκ h.symm⟩
      refine call0 (rhome_spec hlog3 hheld (by rw [pairsOf_length]; exact k1) k2 k3 (by rw [pairsOf_length]; omega)) ?_
      rintro _ w5 ⟨G5, hlog5, hx5⟩
      obtain ⟨hκ5, hs5, hl5, ho5, p5, hq5, hd5⟩ := hlog5
      have hown5 : G5.own w1.heap.size = 0 ∧ G5.fix w1.heap.size = 0 := by
        have hlt := (Array.getElem?_eq_some_iff.1 (hg3.gheap hb2)).1
        rw [hx5.own _ hlt, hx5.fixe _ hlt (by rw [(hno _ (Nat.le_refl _)).1]; exact fun h => hκ h.symm)]
        exact hno _ (Nat.le_refl _)
      obtain ⟨w6, hst, hb6, hk6⟩ := cell_store hq5 (i := 2) (by simp) (u := .int .i64 ns.length) rfl
      have hb6' : w6.heap[w1.heap.size]? = some (.cells #[.pointer (some ⟨p5, 0, none⟩), .int .i64 size, .int .i64 ns.length] 79 (0, 0)) := by simpa using hb6
      have hx6 : Ext (fun c => c = 0) G5 w5 G5 w6 := .on0 hk6 hown5.1 hown5.2
      have hlog6 : RLogAt G5 κ' w6 w1.heap.size size ns.length (homed size D (pairsOf D ns)) := ⟨hκ, hs5, hl5, ho5, p5, hb6', hd5.ext hx6 hκ⟩
      simp (maxSteps := 1000000) (disch := omega) only [↓sy1, sy2, sy3, readOK, sy5, sy6, Nat.reduceEqDiff, ↓reduceIte, sy7, sy8, sy9, sya, oneOf, syb, syc, Nat.reduceAdd, Nat.reduceMul, syd, sye, syf, syg, syh, reduceCtorEq, hlu, hst]
      have hx06 : Ext (fun c => c = κ') G w0 G5 w6 := by
        have h1 := (hx13.mono (κ' := fun c => c = κ') (fun _ h => h.elim)).trans hx5
        exact h1.then0 hk6 (fun b hb h => by omega)
      exact R_out ⟨w1.heap.size, G5, rfl, hq1, hlog6, hx06⟩
end Go.Proofs.YtneehlkofcdhoaaGreat

/- The reference's Commit: the same answer, the same disk. -/
namespace Go.Proofs.YtneehlkofcdhoaaGreat
open Go
set_option linter.unusedSimpArgs false
open Go.RowKit (intOf)
/-- A part of a row. -/
theorem Has.slcToK {k : Nat} {w : World} {v : Value} {xs : List Value} (h : Has k w v xs) {m : Nat} (hm : m * k ≤ xs.length) (hk : 0 < k) :
    ∃ v', slcF k v none (some (.int .i64 m)) none = some v' ∧ Has k w v' (xs.take (m * k)) := by
  rcases h with ⟨b, o, n, c, rfl, h1, h2, h3⟩ | ⟨rfl, rfl⟩
  · have hmn : m ≤ n := Nat.le_of_mul_le_mul_right (h1 ▸ hm) hk
    refine ⟨.slice (some ⟨b, o, none⟩) m c, ?_, .inl ⟨b, o, m, c, rfl, by rw [List.length_take]; omega, by omega, fun j u hj => ?_⟩⟩
    · simp only [slcF, slcV, bndV]
      rw [if_pos ⟨by omega, by omega⟩]
      simp [add_lit]
    · rw [List.getElem?_take] at hj
      split at hj
      · exact h3 j u hj
      · cases hj
  · have hm0 : m = 0 := by
      rcases Nat.eq_zero_or_pos m with h | h
      · exact h
      · have := Nat.mul_pos h hk; simp at hm; omega
    subst hm0
    exact ⟨.slice none 0 0, by simp [slcF, slcV, bndV], by simpa using Has.nil k w⟩
theorem Has.slcFromK {k : Nat} {w : World} {v : Value} {xs : List Value} (h : Has k w v xs) {m : Nat} (hm : m * k ≤ xs.length) (hk : 0 < k) :
    ∃ v', slcF k v (some (.int .i64 m)) none none = some v' ∧ Has k w v' (xs.drop (m * k)) := by
  rcases h with ⟨b, o, n, c, rfl, h1, h2, h3⟩ | ⟨rfl, rfl⟩
  · have hmn : m ≤ n := Nat.le_of_mul_le_mul_right (h1 ▸ hm) hk
    have hr : slcF k (.slice (some ⟨b, o, none⟩) n c) (some (.int .i64 m)) none none = some (.slice (if c = m then some ⟨b, o, none⟩ else some ⟨b, o + m * k, none⟩) (n - m) (c - m)) := by
      simp only [slcF, slcV, bndV]
      simp only [Option.isSome_none, Bool.false_eq_true, if_false]
      rw [if_pos ⟨by omega, by omega⟩]
      simp [add_lit]
    refine ⟨_, hr, ?_⟩
    have hdl : (xs.drop (m * k)).length = (n - m) * k := by rw [List.length_drop, h1, Nat.sub_mul]
    by_cases hc : c = m
    · rw [if_pos hc]
      refine .inl ⟨b, o, n - m, c - m, rfl, hdl, by omega, fun j u hj => ?_⟩
      rw [List.drop_eq_nil_of_le (by rw [h1, show n = m from by omega]; exact Nat.le_refl _)] at hj; simp at hj
    · rw [if_neg hc]
      refine .inl ⟨b, o + m * k, n - m, c - m, rfl, hdl, by omega, fun j u hj => ?_⟩
      rw [List.getElem?_drop] at hj
      rw [show o + m * k + j = o + (m * k + j) from by omega]
      exact h3 _ u hj
  · have hm0 : m = 0 := by
      rcases Nat.eq_zero_or_pos m with h | h
      · exact h
      · have := Nat.mul_pos h hk; simp at hm; omega
    subst hm0
    exact ⟨.slice none 0 0, by simp [slcF, slcV, bndV], by simpa using Has.nil k w⟩
abbrev Qg := Pg × Value
/-- Pages with the values of their bytes, as cells. -/
def cellsQ (qs : List Qg) : List Value := qs.flatMap fun q => [.int .i64 q.1.1, q.2]
theorem cellsQ_append (a b : List Qg) : cellsQ (a ++ b) = cellsQ a ++ cellsQ b := by simp [cellsQ]
theorem cellsQ_length (qs : List Qg) : (cellsQ qs).length = 2 * qs.length := by
  induction qs with
  | nil => rfl
  | cons q qs ih => rw [show cellsQ (q :: qs) = .int .i64 q.1.1 :: q.2 :: cellsQ qs from rfl]; simp [ih]; omega
theorem cellsQ_get : ∀ (qs : List Qg) (i : Nat) (h : i < qs.length), (cellsQ qs)[2 * i]? = some (.int .i64 qs[i].1.1) ∧ (cellsQ qs)[2 * i + 1]? = some qs[i].2
  | q :: qs, 0, _ => ⟨rfl, rfl⟩
  | q :: qs, i + 1, h => by
    rw [show cellsQ (q :: qs) = .int .i64 q.1.1 :: q.2 :: cellsQ qs from rfl, show 2 * (i + 1) = 2 * i + 1 + 1 from by omega]
    simpa using cellsQ_get qs i (by simpa using h)
theorem cellsQ_take (qs : List Qg) (m : Nat) (h : m ≤ qs.length) : (cellsQ qs).take (m * 2) = cellsQ (qs.take m) := by
  have h1 : cellsQ qs = cellsQ (qs.take m) ++ cellsQ (qs.drop m) := by rw [← cellsQ_append, List.take_append_drop]
  rw [h1, List.take_left' (by rw [cellsQ_length, List.length_take]; omega)]
theorem cellsQ_drop (qs : List Qg) (m : Nat) (h : m ≤ qs.length) : (cellsQ qs).drop (m * 2) = cellsQ (qs.drop m) := by
  have h1 : cellsQ qs = cellsQ (qs.take m) ++ cellsQ (qs.drop m) := by rw [← cellsQ_append, List.take_append_drop]
  rw [h1, List.drop_left' (by rw [cellsQ_length, List.length_take]; omega)]
theorem toQ {R : Value → List UInt8 → Prop} : ∀ (ps : List Pg) (xs : List Value), xs.length = 2 * ps.length → (∀ i (h : i < ps.length), xs[2 * i]? = some (.int .i64 ps[i].1) ∧ ∃ u, xs[2 * i + 1]? = some u ∧ R u ps[i].2) →
    ∃ qs : List Qg, qs.map (·.1) = ps ∧ xs = cellsQ qs ∧ ∀ q ∈ qs, R q.2 q.1.2
  | [], xs, hl, _ => ⟨[], rfl, List.eq_nil_of_length_eq_zero hl, fun q hq => by simp at hq⟩
  | p :: ps, a :: b :: xs, hl, h => by
    obtain ⟨h1, u, h2, h3⟩ := h 0 (by simp)
    simp at h1 h2
    subst h1; subst h2
    obtain ⟨qs, h4, h5, h6⟩ := toQ ps xs (by simp at hl; omega) (fun i hi => by
      have := h (i + 1) (by simpa using hi)
      rw [show 2 * (i + 1) = 2 * i + 1 + 1 from by omega] at this
      simpa using this)
    refine ⟨(p, b) :: qs, by simp [h4], by rw [h5]; rfl, fun q hq => ?_⟩
    rcases List.mem_cons.1 hq with rfl | hq
    · exact h3
    · exact h6 q hq
  | p :: ps, [], hl, _ => absurd hl (by simp)
  | p :: ps, [a], hl, _ => absurd hl (by simp; omega)
/-- Numbers of pages rise. -/
def riseQ (qs : List Qg) : Prop := (qs.map (·.1.1)).Pairwise (· < ·)
theorem riseQ_get {qs : List Qg} (h : riseQ qs) {i j : Nat} (hij : i < j) (hj : j < qs.length) : (qs[i]'(by omega)).1.1 < qs[j].1.1 := by
  have := List.pairwise_iff_getElem.1 h i j (by simp; omega) (by simpa using hj) hij
  simpa using this
theorem riseQ_ins {qs : List Qg} {q : Qg} {m : Nat} (h : riseQ qs) (hm : m ≤ qs.length) (h1 : ∀ i (hi : i < qs.length), i < m → qs[i].1.1 < q.1.1) (h2 : ∀ i (hi : i < qs.length), m ≤ i → q.1.1 < qs[i].1.1) : riseQ (qs.take m ++ [q] ++ qs.drop m) := by
  have ht : riseQ (qs.take m) := by unfold riseQ; rw [List.map_take]; exact List.Pairwise.sublist (List.take_sublist ..) h
  have hd : riseQ (qs.drop m) := by unfold riseQ; rw [List.map_drop]; exact List.Pairwise.sublist (List.drop_sublist ..) h
  have ht1 : ∀ a ∈ (qs.take m).map (·.1.1), a < q.1.1 := fun a ha => by
    obtain ⟨r, hr, rfl⟩ := List.mem_map.1 ha
    obtain ⟨i, hi, rfl⟩ := List.getElem_of_mem hr
    rw [List.getElem_take]
    rw [List.length_take] at hi
    exact h1 i (by omega) (by omega)
  have hd1 : ∀ a ∈ (qs.drop m).map (·.1.1), q.1.1 < a := fun a ha => by
    obtain ⟨r, hr, rfl⟩ := List.mem_map.1 ha
    obtain ⟨i, hi, rfl⟩ := List.getElem_of_mem hr
    rw [List.getElem_drop]
    rw [List.length_drop] at hi
    exact h2 (m + i) (by omega) (by omega)
  unfold riseQ
  rw [List.map_append, List.map_append, List.pairwise_append, List.pairwise_append]
  refine ⟨⟨ht, by simp, fun a ha b hb => ?_⟩, hd, fun a ha b hb => ?_⟩
  · simp at hb; subst hb; exact ht1 a ha
  · rcases List.mem_append.1 ha with ha | ha
    · have := ht1 a ha; have := hd1 b hb; omega
    · simp at ha; subst ha; exact hd1 b hb
theorem ins_perm {α : Type} (l r : List α) (q : α) (m : Nat) (h : l.Perm r) : (l.take m ++ [q] ++ l.drop m).Perm (r ++ [q]) := by
  have h1 : (l.take m ++ [q] ++ l.drop m).Perm (l.take m ++ l.drop m ++ [q]) := by
    rw [List.append_assoc, List.append_assoc]
    exact List.Perm.append_left _ List.perm_append_comm
  rw [List.take_append_drop] at h1
  exact h1.trans (h.append_right _)
theorem Ext.past {K : Nat → Prop} {G G' : Gh} {w w' w'' : World} {v : Option Nat} {μ : Nat} (hx : Ext K G w G' w') (hk : Keep (fun b => some b = v) w' w'') (hv : ∀ b, v = some b → w.heap.size ≤ b) : Ext K G w (G'.upto w'.heap.size (fun _ => μ) (fun _ => 0)) w'' := by
  have hs := hx.size
  have hne : ∀ b, b < w.heap.size → ¬ (some b = v) := fun b hb h => by have := hv b h.symm; omega
  have hu1 : ∀ b, b < w.heap.size → (G'.upto w'.heap.size (fun _ => μ) (fun _ => 0)).own b = G'.own b := fun b hb => by simp [Gh.upto, show b < w'.heap.size by omega]
  have hu2 : ∀ b, b < w.heap.size → (G'.upto w'.heap.size (fun _ => μ) (fun _ => 0)).fix b = G'.fix b := fun b hb => by simp [Gh.upto, show b < w'.heap.size by omega]
  exact ⟨hk.os.trans hx.os, hk.tape.trans hx.tape, hk.output.trans hx.output, Nat.le_trans hs hk.size, fun b hb => (hu1 b hb).trans (hx.own b hb), fun b hb => by rw [hu2 b hb]; exact hx.fix b hb,
    fun b hb hn => (hu2 b hb).trans (hx.fixe b hb hn), fun b hb hn => (hk.blk b (by omega) (hne b hb)).trans (hx.blk b hb hn), fun b i u hb hi hc => hk.cell (hx.pre b i u hb hi hc) (hne b hb)⟩
theorem Ext.app {G : Gh} {w w' : World} {μ : Nat} {v : Option Nat} (hk : Keep (fun b => some b = v) w w') (ho : ∀ b, v = some b → G.own b = μ ∧ G.fix b = 0) : Ext (fun c => c = μ) G w (G.upto w.heap.size (fun _ => μ) (fun _ => 0)) w' := by
  have hne : ∀ b, G.own b ≠ μ → ¬ (some b = v) := fun b h hv => h (ho b hv.symm).1
  refine ⟨hk.os, hk.tape, hk.output, hk.size, fun b hb => by simp [Gh.upto, hb], fun b hb => by simp [Gh.upto, hb], fun b hb _ => by simp [Gh.upto, hb], fun b hb hn => hk.blk b hb (hne b hn), fun b i v' hb hi hc => ?_⟩
  by_cases hv : some b = v
  · have := (ho b hv.symm).2; omega
  · exact hk.cell hc hv
end Go.Proofs.YtneehlkofcdhoaaGreat

/- The reference's Commit: the walk. -/
namespace Go.Proofs.YtneehlkofcdhoaaGreat
open Go
set_option linter.unusedSimpArgs false
open Go.RowKit (intOf)
theorem cellsQ_cell {G : Gh} {κ : Nat} {w : World} {qs : List Qg} (h : ∀ q ∈ qs, Held G κ w q.2 (bs q.1.2)) : ∀ u ∈ cellsQ qs, isCell u = true := fun u hu => by
  obtain ⟨q, hq, hu⟩ := List.mem_flatMap.1 hu
  simp at hu
  rcases hu with rfl | rfl
  · rfl
  · exact (h q hq).1.isCell
/-- An element of the row that is sorted. -/
theorem Has.atQ {w : World} {v : Value} {qs : List Qg} (h : Has 2 w v (cellsQ qs)) {i : Nat} (hi : i < qs.length) :
    ∃ b o, iaF 2 v (.int .i64 i) = some (.pointer (some ⟨b, o, none⟩)) ∧ w.cell? ⟨b, o, none⟩ = some (.int .i64 qs[i].1.1) ∧ w.cell? ⟨b, o + 1, none⟩ = some qs[i].2 := by
  obtain ⟨b, o, h5, h6, _⟩ := h.idxk (i := i) (by rw [cellsQ_length]; omega)
  obtain ⟨h7, h8⟩ := cellsQ_get qs i hi
  obtain ⟨x, hx, hxc⟩ := h6 0 (by omega)
  obtain ⟨y, hy, hyc⟩ := h6 1 (by omega)
  rw [show i * 2 + 0 = 2 * i from by omega, h7] at hx
  rw [show i * 2 + 1 = 2 * i + 1 from by omega, h8] at hy
  cases hx; cases hy
  exact ⟨b, o, h5, hxc, hyc⟩
set_option maxHeartbeats 8000000 in
theorem rcommit_spec {G : Gh} {κ : Nat} {w : World} {q size came : Nat} {D : Dsk} {v : Value} {ps : List Pg} {xs : List Value} (h : RLogAt G κ w q size came D) (hp : PagesH G κ w v ps xs) (hl : ps.length ≤ 1048576) (ho : D.ops.length < 700000) :
    Calls Tryz.prog 8 #[.pointer (some ⟨q, 0, none⟩), v] w (Ret fun r w' => r = .int .i64 (ccode D.first.length size ps) ∧ ∃ G', RLogAt G' κ w' q size came (cdone size D ps) ∧ Ext (fun c => c = κ) G w G' w') := by
  have hmost := h.cells.choose_spec.1.ok.most
  have hs1 := h.2.1
  have hs2 := h.2.2.1
  have hlen := hp.len
  apply enter8
  apply R_in
  by_cases hps : ps = []
  · subst hps
    simp (maxSteps := 1000000) (disch := omega) only [↓sy1, sy2, sy3, readOK, sy5, sy6, Nat.reduceEqDiff, ↓reduceIte, sy7, sy8, sy9, sya, oneOf, syb, syc, Nat.reduceAdd, Nat.reduceMul, syd, sye, syf, syg, syh, reduceCtorEq, F8, hlen, List.length_nil, show (((0 : Nat) : Int) = 0) = True from by simp, decide_true]
    exact R_out ⟨by simp [ccode], G, by simpa [cdone] using h, .refl _ _ _⟩
  have hpos : 0 < ps.length := List.length_pos_iff.2 hps
  simp (maxSteps := 1000000) (disch := omega) only [↓sy1, sy2, sy3, readOK, sy5, sy6, Nat.reduceEqDiff, ↓reduceIte, sy7, sy8, sy9, sya, oneOf, syb, syc, Nat.reduceAdd, Nat.reduceMul, syd, sye, syf, syg, syh, reduceCtorEq, F8, hlen, show ¬ ((ps.length : Int) = 0) from by omega, decide_false]
  refine call0 (rcapacity_spec h) ?_
  rintro _ w1 ⟨rfl, rfl⟩
  by_cases hcap : min size 100 < ps.length
  · simp (maxSteps := 1000000) (disch := omega) only [↓sy1, sy2, sy3, readOK, sy5, sy6, Nat.reduceEqDiff, ↓reduceIte, sy7, sy8, sy9, sya, oneOf, syb, syc, Nat.reduceAdd, Nat.reduceMul, syd, sye, syf, syg, syh, reduceCtorEq, hlen, show ((min size 100 : Nat) : Int) < (ps.length : Int) from by omega, decide_true]
    exact R_out ⟨by simp [ccode, hps, hcap], G, by simpa [cdone, ccode, hps, hcap] using h, .refl _ _ _⟩
  simp (maxSteps := 1000000) (disch := omega) only [↓sy1, sy2, sy3, readOK, sy5, sy6, Nat.reduceEqDiff, ↓reduceIte, sy7, sy8, sy9, sya, oneOf, syb, syc, Nat.reduceAdd, Nat.reduceMul, syd, sye, syf, syg, syh, reduceCtorEq, hlen, show ¬ (((min size 100 : Nat) : Int) < (ps.length : Int)) from by omega, decide_false]
  have hbadR : ∀ {w' : World}, Grow w1 w' → anyOut (D.first.length - size - 1) ps → R ((Value.int .i64 2) = .int .i64 (ccode D.first.length size ps) ∧ ∃ G', RLogAt G' κ w' q size came (cdone size D ps) ∧ Ext (fun c => c = κ) G w1 G' w') := fun {w'} hg hany =>
    R_out ⟨by simp [ccode, hps, hcap, hany], G, by simpa [cdone, ccode, hps, hcap, hany] using h.grow hg, .grow hg⟩
  refine loop_rule (fun e w' => ∃ i : Nat, i ≤ ps.length ∧ e 5 = .int .i64 i ∧ e 1 = v ∧ e 0 = .pointer (some ⟨q, 0, none⟩) ∧ (∀ j (hj : j < ps.length), j < i → ¬ outOf (D.first.length - size - 1) ps[j].1) ∧ Grow w1 w') (fun e _ => ps.length - (intOf (e 5)).toNat)
    ⟨0, by omega, by simp [upd, updO, ev], by simp [upd, updO, ev], by simp [upd, updO, ev], fun j _ hj => by omega, Keep.refl _ _⟩ ?_
  rintro e w2 ⟨i, hi, e5, e1, e0, hgood, hg2⟩
  by_cases hlt : i < ps.length
  · simp (maxSteps := 1000000) (disch := omega) only [↓sy1, sy2, sy3, readOK, sy5, sy6, Nat.reduceEqDiff, ↓reduceIte, sy7, sy8, sy9, sya, oneOf, syb, syc, Nat.reduceAdd, Nat.reduceMul, syd, sye, syf, syg, syh, reduceCtorEq, F8_L0, e5, e1, e0, hlen, Int.ofNat_lt, hlt, decide_true]
    refine draw8_0 (fun _ => False) ?_
    have hgd : Grow w2 w2.drew := (Keep.refl _ _).drew
    generalize w2.drew = w3 at hgd ⊢
    have hg3 := hg2.trans hgd
    obtain ⟨b, o, u, hia, hc0, _, _⟩ := (hp.grow hg3).parts hlt
    by_cases h0 : ps[i].1 < 0
    · simp (maxSteps := 1000000) (disch := omega) only [↓sy1, sy2, sy3, readOK, sy5, sy6, Nat.reduceEqDiff, ↓reduceIte, sy7, sy8, sy9, sya, oneOf, syb, syc, Nat.reduceAdd, Nat.reduceMul, syd, sye, syf, syg, syh, reduceCtorEq, PL8_0, e5, e1, e0, hia, hc0, h0, decide_true, false_implies]
      exact ⟨Keep.refl _ _, hbadR hg3 ⟨_, List.getElem_mem hlt, .inl h0⟩⟩
    · simp (maxSteps := 1000000) (disch := omega) only [↓sy1, sy2, sy3, readOK, sy5, sy6, Nat.reduceEqDiff, ↓reduceIte, sy7, sy8, sy9, sya, oneOf, syb, syc, Nat.reduceAdd, Nat.reduceMul, syd, sye, syf, syg, syh, reduceCtorEq, PL8_0, e5, e1, e0, hia, hc0, h0, decide_false, false_implies]
      refine call0 (rpages_spec (h.grow hg3)) ?_
      rintro _ w4 ⟨rfl, hg4⟩
      by_cases h1 : ((D.first.length - size - 1 : Nat) : Int) ≤ ps[i].1
      · simp (maxSteps := 1000000) (disch := omega) only [↓sy1, sy2, sy3, readOK, sy5, sy6, Nat.reduceEqDiff, ↓reduceIte, sy7, sy8, sy9, sya, oneOf, syb, syc, Nat.reduceAdd, Nat.reduceMul, syd, sye, syf, syg, syh, reduceCtorEq, e5, e1, e0, h1, decide_true]
        exact ⟨hg4, hbadR (hg3.trans hg4) ⟨_, List.getElem_mem hlt, .inr h1⟩⟩
      · simp (maxSteps := 1000000) (disch := omega) only [↓sy1, sy2, sy3, readOK, sy5, sy6, Nat.reduceEqDiff, ↓reduceIte, sy7, sy8, sy9, sya, oneOf, syb, syc, Nat.reduceAdd, Nat.reduceMul, syd, sye, syf, syg, syh, reduceCtorEq, e5, e1, e0, h1, decide_false]
        refine ⟨hg4, R_out ⟨⟨i + 1, by omega, rfl, fun j hj hji => ?_, hg3.trans hg4⟩, ?_⟩⟩
        · by_cases hj' : j = i
          · subst hj'; simp only [outOf]; omega
          · exact hgood j hj (by omega)
        · simp only [intOf]; omega
  have hie : i = ps.length := by omega
  subst hie
  have hany : ¬ anyOut (D.first.length - size - 1) ps := by
    rintro ⟨p, hp', hop⟩
    obtain ⟨j, hj, rfl⟩ := List.getElem_of_mem hp'
    exact hgood j hj hj hop
  have h0 := anyOut_nonneg hany
  have hcgood : goodP ps → ccode D.first.length size ps = 0 := fun hg => by simp [ccode, hps, hcap, hany, hg]
  have hcbad : ¬ goodP ps → ccode D.first.length size ps = 3 ∧ cdone size D ps = D := fun hg => by simp [cdone, ccode, hps, hcap, hany, hg]
  have hout : ∀ {w' : World}, Grow w1 w' → ¬ goodP ps → R ((Value.int .i64 3) = .int .i64 (ccode D.first.length size ps) ∧ ∃ G', RLogAt G' κ w' q size came (cdone size D ps) ∧ Ext (fun c => c = κ) G w1 G' w') := fun {w'} hgw hbad => by
    obtain ⟨c1, c2⟩ := hcbad hbad
    exact R_out ⟨by rw [c1], G, by rw [c2]; exact h.grow hgw, .grow hgw⟩
  obtain ⟨qs, hq1, hq2, hq3⟩ := toQ (R := fun u l => Held G κ w1 u (bs l)) ps xs hp.2.1 hp.2.2.2
  subst hq2
  have hql : qs.length = ps.length := by rw [← hq1]; simp
  have hqi : ∀ i (hi : i < ps.length), ps[i] = (qs[i]'(by omega)).1 := fun i hi => by subst hq1; simp
  clear hgood hlt hi
  simp (maxSteps := 1000000) (disch := omega) only [↓sy1, sy2, sy3, readOK, sy5, sy6, Nat.reduceEqDiff, ↓reduceIte, sy7, sy8, sy9, sya, oneOf, syb, syc, Nat.reduceAdd, Nat.reduceMul, syd, sye, syf, syg, syh, reduceCtorEq, F8_L0, e5, e1, e0, hlen, show ¬ ((ps.length : Int) < (ps.length : Int)) from by omega, decide_false]
  refine loop_rule (fun e w' => ∃ (i : Nat) (srt : List Qg), i ≤ ps.length ∧ e 7 = .int .i64 i ∧ e 1 = v ∧ e 0 = .pointer (some ⟨q, 0, none⟩) ∧ w'.ownsRow w2.heap.size 63 2 (e 6) srt.length (cellsQ srt) ∧ riseQ srt ∧ srt.Perm (qs.take i) ∧
      (∀ j (hj : j < ps.length), j < i → ps[j].2.length = 512) ∧ Grow w2 w') (fun e _ => ps.length - (intOf (e 7)).toNat)
    ⟨0, [], by omega, by simp [upd, updO, ev], by simp [upd, updO, ev, e1], by simp [upd, updO, ev, e0], by simpa [upd, updO, ev] using (show w2.ownsRow w2.heap.size 63 2 (.slice none 0 0) ([] : List Qg).length (cellsQ []) from World.ownsRow_nil w2 _ _ _), List.Pairwise.nil, by simp, fun j _ hj => by omega, Keep.refl _ _⟩ ?_
  clear e5 e1 e0
  rintro e w3 ⟨i, srt, hi, e7, e1, e0, ho3, hrise, hperm, h512, hg3⟩
  have hgw3 := hg2.trans hg3
  have hsl : srt.length = i := by rw [hperm.length_eq, List.length_take]; omega
  have hheld : ∀ r ∈ srt, Held G κ w1 r.2 (bs r.1.2) := fun r hr => hq3 r (List.mem_of_mem_take (hperm.mem_iff.1 hr))
  by_cases hlt : i < ps.length
  · obtain ⟨b, o, u, hia, hc0, hc1, hu⟩ := (hp.grow hgw3).parts hlt
    have hul : ∀ w', lenF w' 0 u = some (.int .i64 ps[i].2.length) := fun w' => Has.lenB hu.1 w'
    have hu2 : u = (qs[i]'(by omega)).2 := by
      have h1 := (cellsQ_get qs i (by omega)).2
      obtain ⟨_, u', h2, h3⟩ := hp.2.2.2 i hlt
      obtain ⟨b', o', hia', _, hc1'⟩ := Has.atQ (hp.grow hgw3).1 (i := i) (by omega)
      rw [hia] at hia'; cases hia'
      rw [hc1] at hc1'; exact Option.some.inj hc1'
    have hpi : ps[i] = (qs[i]'(by omega)).1 := hqi i hlt
    by_cases hb5 : ¬ (ps[i].2.length = 512)
    · simp (maxSteps := 1000000) (disch := omega) only [↓sy1, sy2, sy3, readOK, sy5, sy6, Nat.reduceEqDiff, ↓reduceIte, sy7, sy8, sy9, sya, oneOf, syb, syc, Nat.reduceAdd, Nat.reduceMul, syd, sye, syf, syg, syh, reduceCtorEq, F8_L2, e7, e1, e0, hlen, Int.ofNat_lt, hlt, decide_true, hia, hc1, hul, show ¬ ((ps[i].2.length : Int) = 512) from by omega, decide_false, Bool.not_false]
      exact hout hgw3 (fun hg => hb5 (hg.2 _ (List.getElem_mem hlt)))
    have hb5 := Decidable.of_not_not hb5
    have hslen : ∀ w', lenF w' 0 (e 6) = some (.int .i64 i) := fun w' => by rw [(Has.own ho3).lenk (by omega), cellsQ_length, hsl, Nat.mul_div_cancel_left _ (by omega)]
    generalize hsv : e 6 = sv at ho3 hslen
    simp (maxSteps := 1000000) (disch := omega) only [↓sy1, sy2, sy3, readOK, sy5, sy6, Nat.reduceEqDiff, ↓reduceIte, sy7, sy8, sy9, sya, oneOf, syb, syc, Nat.reduceAdd, Nat.reduceMul, syd, sye, syf, syg, syh, reduceCtorEq, F8_L2, e7, e1, e0, hsv, hlen, hslen, Int.ofNat_lt, hlt, decide_true, hia, hc1, hul, show ((ps[i].2.length : Int) = 512) = True from by simp [hb5], decide_true, Bool.not_true]
    refine loop_rule (fun e w' => ∃ m : Nat, m ≤ i ∧ e 8 = .int .i64 m ∧ e 7 = .int .i64 i ∧ e 6 = sv ∧ e 1 = v ∧ e 0 = .pointer (some ⟨q, 0, none⟩) ∧ (∀ j (hj : j < srt.length), m ≤ j → ps[i].1 < srt[j].1.1) ∧ Grow w3 w') (fun e _ => (intOf (e 8)).toNat)
      ⟨i, Nat.le_refl _, by simp [upd, updO, ev], by simp [upd, updO, ev, e7], by simp [upd, updO, ev, hsv], by simp [upd, updO, ev, e1], by simp [upd, updO, ev, e0], fun j hj hmj => by omega, Keep.refl _ _⟩ ?_
    clear e7 e1 e0 hsv
    rintro e w4 ⟨m, hm, e8, e7, e6, e1, e0, habove, hg4⟩
    have hgw4 := hgw3.trans hg4
    have hsm : ∀ {w'}, Grow w4 w' → Has 2 w' sv (cellsQ srt) := fun hg => (Has.own ho3).grow (hg4.trans hg)
    have hpa : ∀ {w'}, Grow w4 w' → ∃ b o, iaF 2 v (.int .i64 i) = some (.pointer (some ⟨b, o, none⟩)) ∧ w'.cell? ⟨b, o, none⟩ = some (.int .i64 ps[i].1) := fun hg => by
      obtain ⟨b, o, _, h1, h2, _⟩ := (hp.grow (hgw4.trans hg)).parts hlt
      exact ⟨b, o, h1, h2⟩
    have hsr : ∀ (h : 0 < m) {w' : World}, Grow w4 w' → ∃ b o, iaF 2 sv (.int .i64 ((m : Int) - 1)) = some (.pointer (some ⟨b, o, none⟩)) ∧ w'.cell? ⟨b, o, none⟩ = some (.int .i64 (srt[m - 1]'(by omega)).1.1) := fun h {w'} hg => by
      obtain ⟨b, o, h1, h2, _⟩ := (hsm hg).atQ (i := m - 1) (by omega)
      rw [show ((m - 1 : Nat) : Int) = (m : Int) - 1 from by omega] at h1
      exact ⟨b, o, h1, h2⟩
    simp (maxSteps := 1000000) (disch := omega) only [↓sy1, sy2, sy3, readOK, sy5, sy6, Nat.reduceEqDiff, ↓reduceIte, sy7, sy8, sy9, sya, oneOf, syb, syc, Nat.reduceAdd, Nat.reduceMul, syd, sye, syf, syg, syh, reduceCtorEq, F8_L1]
    refine draw8_1 (fun _ => False) ?_
    have hgd : Grow w4 w4.drew := (Keep.refl _ _).drew
    generalize w4.drew = w5 at hgd ⊢
    obtain ⟨bp, op, hpia, hpc⟩ := hpa hgd
    by_cases hB : ∃ h : 0 < m, ps[i].1 < (srt[m - 1]'(by omega)).1.1
    · obtain ⟨hm0, hB⟩ := hB
      obtain ⟨bs', os', hsia, hsc⟩ := hsr hm0 hgd
      simp (maxSteps := 1000000) (disch := omega) only [↓sy1, sy2, sy3, readOK, sy5, sy6, Nat.reduceEqDiff, ↓reduceIte, sy7, sy8, sy9, sya, oneOf, syb, syc, Nat.reduceAdd, Nat.reduceMul, syd, sye, syf, syg, syh, reduceCtorEq, PL8_1, e8, e7, e6, e1, e0, show ((0 : Int) < (m : Int)) from by omega, hsia, hsc, hpia, hpc, hB, decide_true]
      refine R_out ⟨⟨m - 1, by omega, by congr 1; omega, fun j hj hmj => ?_, hg4.trans hgd⟩, ?_⟩
      · by_cases hjm : j = m - 1
        · subst hjm; exact hB
        · exact habove j hj (by omega)
      · simp only [intOf]; omega
    by_cases hE : ∃ h : 0 < m, (srt[m - 1]'(by omega)).1.1 = ps[i].1
    · obtain ⟨hm0, hE⟩ := hE
      obtain ⟨bs', os', hsia, hsc⟩ := hsr hm0 hgd
      rw [hE] at hsc
      have hbad : ¬ goodP ps := fun hg => by
        have h1 := hg.1
        have hmem := hperm.mem_iff.1 (List.getElem_mem (show m - 1 < srt.length by omega))
        obtain ⟨k, hk, hke⟩ := List.getElem_of_mem hmem
        rw [List.length_take] at hk
        rw [List.getElem_take] at hke
        have hne := List.pairwise_iff_getElem.1 h1 k i (by simp; omega) (by simpa using hlt) (by omega)
        rw [List.getElem_map, List.getElem_map, hqi k (by omega), hke, hE] at hne
        exact hne rfl
      simp (maxSteps := 1000000) (disch := omega) only [↓sy1, sy2, sy3, readOK, sy5, sy6, Nat.reduceEqDiff, ↓reduceIte, sy7, sy8, sy9, sya, oneOf, syb, syc, Nat.reduceAdd, Nat.reduceMul, syd, sye, syf, syg, syh, reduceCtorEq, PL8_1, e8, e7, e6, e1, e0, show ((0 : Int) < (m : Int)) from by omega, hsia, hsc, hpia, hpc, show ¬ (ps[i].1 < ps[i].1) from by omega, decide_true, decide_false]
      refine draw8_2 (fun _ => False) ?_
      have hgd2 : Grow w5 w5.drew := (Keep.refl _ _).drew
      generalize w5.drew = w6 at hgd2 ⊢
      have hsc6 := hgd2.gcell hsc
      have hpc6 := hgd2.gcell hpc
      simp (maxSteps := 1000000) (disch := omega) only [↓sy1, sy2, sy3, readOK, sy5, sy6, Nat.reduceEqDiff, ↓reduceIte, sy7, sy8, sy9, sya, oneOf, syb, syc, Nat.reduceAdd, Nat.reduceMul, syd, sye, syf, syg, syh, reduceCtorEq, PL8_2, e8, e7, e6, e1, e0, show ((0 : Int) < (m : Int)) from by omega, hsia, hsc6, hpia, hpc6, decide_true]
      exact hout ((hgw4.trans hgd).trans hgd2) hbad
    have hbelow : ∀ j (hj : j < srt.length), j < m → srt[j].1.1 < ps[i].1 := fun j hj hjm => by
      have h1 : ¬ (ps[i].1 < (srt[m - 1]'(by omega)).1.1) := fun h => hB ⟨by omega, h⟩
      have h2 : ¬ ((srt[m - 1]'(by omega)).1.1 = ps[i].1) := fun h => hE ⟨by omega, h⟩
      by_cases hj1 : j = m - 1
      · subst hj1; omega
      · have := riseQ_get hrise (i := j) (j := m - 1) (by omega) (by omega); omega
    have hins := riseQ_ins (q := qs[i]'(by omega)) hrise (m := m) (by omega) (fun j hj hjm => by rw [← hpi]; exact hbelow j hj hjm) (fun j hj hjm => by rw [← hpi]; exact habove j hj hjm)
    have hip := ins_perm srt (qs.take i) (qs[i]'(by omega)) m hperm
    rw [← List.take_succ_eq_append_getElem (by omega)] at hip
    have hgd2 : Grow w5 w5.drew := (Keep.refl _ _).drew
    have hsl2 := (Has.own ho3).slcToK (m := m) (by rw [cellsQ_length]; omega) (by omega)
    have hsl3 := (Has.own ho3).slcFromK (m := m) (by rw [cellsQ_length]; omega) (by omega)
    rw [cellsQ_take srt m (by omega)] at hsl2
    rw [cellsQ_drop srt m (by omega)] at hsl3
    obtain ⟨v1, hv1, hH1⟩ := hsl2
    obtain ⟨v2, hv2, hH2⟩ := hsl3
    have hqc : isCell (qs[i]'(by omega)).2 = true := (hq3 _ (List.getElem_mem (by omega))).1.isCell
    have hcc : ∀ l : List Qg, (∀ r ∈ l, r ∈ srt) → ∀ u ∈ cellsQ l, isCell u = true := fun l hs => cellsQ_cell (fun r hr => hheld r (hs r hr))
    have hsv : ∀ b, sv.ownBlock = some b → b < w3.heap.size := fun b hb => (World.ownsRow.lt ho3 b hb).2
    by_cases hmz : m = 0
    all_goals first
      | (simp (maxSteps := 1000000) (disch := omega) only [↓sy1, sy2, sy3, readOK, sy5, sy6, Nat.reduceEqDiff, ↓reduceIte, sy7, sy8, sy9, sya, oneOf, syb, syc, Nat.reduceAdd, Nat.reduceMul, syd, sye, syf, syg, syh, reduceCtorEq, PL8_1, e8, e7, e6, e1, e0, show ¬ ((0 : Int) < (m : Int)) from by omega, decide_false, false_implies])
      | (obtain ⟨bs', os', hsia, hsc⟩ := hsr (by omega) hgd
         have hnb : ¬ (ps[i].1 < (srt[m - 1]'(by omega)).1.1) := fun h => hB ⟨by omega, h⟩
         simp (maxSteps := 1000000) (disch := omega) only [↓sy1, sy2, sy3, readOK, sy5, sy6, Nat.reduceEqDiff, ↓reduceIte, sy7, sy8, sy9, sya, oneOf, syb, syc, Nat.reduceAdd, Nat.reduceMul, syd, sye, syf, syg, syh, reduceCtorEq, PL8_1, e8, e7, e6, e1, e0, show ((0 : Int) < (m : Int)) from by omega, hsia, hsc, hpia, hpc, hnb, decide_true, decide_false])
    all_goals
      refine draw8_2 (fun _ => False) ?_
      have hgd2 : Grow w5 w5.drew := (Keep.refl _ _).drew
      generalize w5.drew = w6 at hgd2 ⊢
    all_goals first
      | (simp (maxSteps := 1000000) (disch := omega) only [↓sy1, sy2, sy3, readOK, sy5, sy6, Nat.reduceEqDiff, ↓reduceIte, sy7, sy8, sy9, sya, oneOf, syb, syc, Nat.reduceAdd, Nat.reduceMul, syd, sye, syf, syg, syh, reduceCtorEq, PL8_2, e8, e7, e6, e1, e0, show ¬ ((0 : Int) < (m : Int)) from by omega, decide_false, false_implies, hv1])
      | (have hsc6 := hgd2.gcell hsc
         have hpc6 := hgd2.gcell hpc
         have hne : ¬ ((srt[m - 1]'(by omega)).1.1 = ps[i].1) := fun h => hE ⟨by omega, h⟩
         simp (maxSteps := 1000000) (disch := omega) only [↓sy1, sy2, sy3, readOK, sy5, sy6, Nat.reduceEqDiff, ↓reduceIte, sy7, sy8, sy9, sya, oneOf, syb, syc, Nat.reduceAdd, Nat.reduceMul, syd, sye, syf, syg, syh, reduceCtorEq, PL8_2, e8, e7, e6, e1, e0, show ((0 : Int) < (m : Int)) from by omega, hsia, hsc6, hpia, hpc6, hne, decide_true, decide_false, hv1])
    all_goals
      have hgw6 := (hgw4.trans hgd).trans hgd2
      have hg36 : Grow w3 w6 := (hg4.trans hgd).trans hgd2
      have hs36 := hg36.size
      refine app_own elemPg (by simp only [upd_at, Nat.reduceEqDiff, reduceIte, ev_tmp, ev_const, List.map_cons, List.map_nil]) (by simp only [upd_at, Nat.reduceEqDiff, reduceIte, ev_tmp, ev_const, List.map_cons, List.map_nil]) (World.ownsRow_nil w6 w6.heap.size _ 2) (hH1.grow hg36) (m := m) (by rw [cellsQ_length, List.length_take]; omega) (hcc _ (fun r hr => List.mem_of_mem_take hr)) (by omega) (by omega) (Nat.le_refl _) ?_
      intro x7 w7 ho7 hgr7
      have hk7 := Keep.grown hgr7
      have hg67 : Grow w6 w7 := hk7.mono (fun b hb h => by cases h)
      rw [List.nil_append, Nat.zero_add] at ho7
      obtain ⟨b7, o7, u7, hia7, hld7c, hld7d, _⟩ := (hp.grow (hgw6.trans hg67)).parts hlt
      have hu7 : u7 = (qs[i]'(by omega)).2 := by
        obtain ⟨b', o', hia', _, hc1'⟩ := Has.atQ (hp.grow (hgw6.trans hg67)).1 (i := i) (by omega)
        rw [hia7] at hia'; cases hia'
        rw [hld7d] at hc1'; exact Option.some.inj hc1'
      rw [hu7] at hld7d
      rw [hpi] at hld7c
      simp (maxSteps := 1000000) (disch := omega) only [↓sy1, sy2, sy3, readOK, sy5, sy6, Nat.reduceEqDiff, ↓reduceIte, sy7, sy8, sy9, sya, oneOf, syb, syc, Nat.reduceAdd, Nat.reduceMul, syd, sye, syf, syg, syh, reduceCtorEq, e8, e7, e6, e1, e0, hia7, loadN2 hld7c hld7d, fill_gen, fill_of2, fillF_p (a := .int .i64 0) (b := .slice none 0 0)]
      have hgap : Grow w7 (w7.alloc (.cells #[.int .i64 (qs[i]'(by omega)).1.1, (qs[i]'(by omega)).2] 63)) := (Keep.refl _ _).alloc _
      refine app_own elemPg (by simp only [upd_at, Nat.reduceEqDiff, reduceIte, ev_tmp, ev_const, List.map_cons, List.map_nil]) (by simp only [upd_at, Nat.reduceEqDiff, reduceIte, ev_tmp, ev_const, List.map_cons, List.map_nil]) (own_keepk ho7 hgap (fun _ _ => id)) Has.newp (m := 1) rfl (by simpa [isCell] using hqc) (by omega) (by omega) (by have := hg67.size; have := hgap.size; omega) ?_
      intro x8 w8 ho8 hgr8
      have hk8 : Keep (fun b => some b = x7.ownBlock) w7 w8 := (Keep.grow hgap).trans (Keep.grown hgr8)
      have hg68 : Grow w6 w8 := hg67.then hk8 (fun b hb h => by have := (World.ownsRow.lt ho7 b h.symm).1; omega)
      have hH28 : Has 2 w8 v2 (cellsQ (srt.drop m)) := hH2.grow (hg36.trans hg68)
      simp (maxSteps := 1000000) (disch := omega) only [↓sy1, sy2, sy3, readOK, sy5, sy6, Nat.reduceEqDiff, ↓reduceIte, sy7, sy8, sy9, sya, oneOf, syb, syc, Nat.reduceAdd, Nat.reduceMul, syd, sye, syf, syg, syh, reduceCtorEq, e8, e7, e6, e1, e0, hv2]
      refine app_own elemPg (by simp only [upd_at, Nat.reduceEqDiff, reduceIte, ev_tmp, ev_const, List.map_cons, List.map_nil]) (by simp only [upd_at, Nat.reduceEqDiff, reduceIte, ev_tmp, ev_const, List.map_cons, List.map_nil]) ho8 hH28 (m := i - m) (by rw [cellsQ_length, List.length_drop]; omega) (hcc _ (fun r hr => List.mem_of_mem_drop hr)) (by omega) (by omega) (by have := hg68.size; omega) ?_
      intro x9 w9 ho9 hgr9
      have hk9 : Keep (fun b => some b = x8.ownBlock) w8 w9 := Keep.grown hgr9
      have hg69 : Grow w6 w9 := hg68.then hk9 (fun b hb h => by have := (World.ownsRow.lt ho8 b h.symm).1; omega)
      simp (maxSteps := 1000000) (disch := omega) only [↓sy1, sy2, sy3, readOK, sy5, sy6, Nat.reduceEqDiff, ↓reduceIte, sy7, sy8, sy9, sya, oneOf, syb, syc, Nat.reduceAdd, Nat.reduceMul, syd, sye, syf, syg, syh, reduceCtorEq, e8, e7, e6, e1, e0]
      have hcells : cellsQ (srt.take m) ++ [.int .i64 (qs[i]'(by omega)).1.1, (qs[i]'(by omega)).2] ++ cellsQ (srt.drop m) = cellsQ (srt.take m ++ [qs[i]'(by omega)] ++ srt.drop m) := by
        rw [cellsQ_append, cellsQ_append]; rfl
      rw [hcells] at ho9
      refine R_out ⟨⟨i + 1, srt.take m ++ [qs[i]'(by omega)] ++ srt.drop m, by omega, rfl, ?_, hins, hip, fun j hj hji => ?_, hg3.trans (hg36.trans hg69)⟩, ?_⟩
      · have hln : (srt.take m ++ [qs[i]'(by omega)] ++ srt.drop m).length = m + 1 + (i - m) := by simp; omega
        rw [hln]
        exact own_basek ho9 (by have := hg3.size; omega)
      · by_cases hji' : j = i
        · subst hji'; exact hb5
        · exact h512 j hj (by omega)
      · simp only [intOf]; omega
  · have hie : i = ps.length := by omega
    subst hie
    rw [List.take_of_length_le (by omega)] at hperm
    have hmapq : ps.map (·.1) = qs.map (·.1.1) := by rw [← hq1, List.map_map]; rfl
    have hnd : (ps.map (·.1)).Nodup := by
      rw [hmapq]
      refine (hperm.map (·.1.1)).nodup_iff.1 ?_
      exact List.Pairwise.imp (fun h => by omega) hrise
    have hgood : goodP ps := ⟨hnd, fun p hp' => by
      obtain ⟨j, hj, rfl⟩ := List.getElem_of_mem hp'
      exact h512 j hj hj⟩
    have hmem : ∀ r ∈ srt, r.1 ∈ ps := fun r hr => by rw [← hq1]; exact List.mem_map.2 ⟨r, hperm.mem_iff.1 hr, rfl⟩
    have hSP : srt.map (fun r => (r.1.1.toNat, r.1.2)) = sortP ps := by
      refine sortP_unique hnd h0 ?_ (fun n b => ?_)
      · rw [List.map_map, List.pairwise_map]
        have hr := hrise
        unfold riseQ at hr
        rw [List.pairwise_map] at hr
        refine hr.imp_of_mem (fun {a b} ha hb hab => ?_)
        have h1 := h0 _ (hmem a ha)
        have h2 := h0 _ (hmem b hb)
        simp only [Function.comp]; omega
      · simp only [List.mem_map, Prod.mk.injEq]
        constructor
        · rintro ⟨r, hr, rfl, rfl⟩
          have h1 := h0 _ (hmem r hr)
          rw [show ((r.1.1.toNat : Nat) : Int) = r.1.1 from by omega]
          exact hmem r hr
        · intro hm
          rw [← hq1] at hm
          obtain ⟨r, hr, hre⟩ := List.mem_map.1 hm
          exact ⟨r, hperm.mem_iff.2 hr, by rw [hre]; simp, by rw [hre]⟩
    have hcc := hcgood hgood
    have hcd : cdone size D ps = grouped size D (sortP ps) := by simp [cdone, hps, hcc]
    rw [hcc, hcd]
    have hκ := h.1
    have hx3 : Ext (fun c => c = κ) G w1 (G.new w1.heap.size) w3 := .newB hgw3
    have hlog3 : RLogAt (G.new w1.heap.size) κ w3 q size came D := h.ext (K := fun _ => False) (.newB hgw3) id id
    have hh3 : ∀ r ∈ srt, Held (G.new w1.heap.size) κ w3 r.2 (bs r.1.2) := fun r hr => (hheld r hr).ext hx3
    have hsown : ∀ b, (e 6).ownBlock = some b → b < w3.heap.size ∧ (G.new w1.heap.size).own b ≠ κ := fun b hb => by
      obtain ⟨h1, h2⟩ := World.ownsRow.lt ho3 b hb
      exact ⟨h2, by rw [Gh.new_own (by have := hg2.size; omega)]; exact fun h => hκ h.symm⟩
    have hsH := Has.own ho3
    generalize e6 : e 6 = sv at hsown hsH
    have hslen : ∀ w', lenF w' 0 sv = some (.int .i64 ps.length) := fun w' => by rw [hsH.lenk (by omega), cellsQ_length, hsl, Nat.mul_div_cancel_left _ (by omega)]
    generalize G.new w1.heap.size = G3 at hx3 hlog3 hh3 hsown
    have hspl := sortP_length ps
    have hspi : ∀ i (hi : i < (sortP ps).length), (sortP ps)[i] = ((srt[i]'(by omega)).1.1.toNat, (srt[i]'(by omega)).1.2) := fun i hi => by
      have : ∀ (l : List (Nat × List UInt8)) (hl : i < l.length), l = sortP ps → l[i] = (sortP ps)[i] := fun l hl he => by subst he; rfl
      rw [← this _ (by rw [List.length_map]; omega) hSP, List.getElem_map]
    simp (maxSteps := 1000000) (disch := omega) only [↓sy1, sy2, sy3, readOK, sy5, sy6, Nat.reduceEqDiff, ↓reduceIte, sy7, sy8, sy9, sya, oneOf, syb, syc, Nat.reduceAdd, Nat.reduceMul, syd, sye, syf, syg, syh, reduceCtorEq, F8_L2, e7, e1, e0, e6, hlen, show ¬ ((ps.length : Int) < (ps.length : Int)) from by omega, decide_false]
    have hqb := sortP_bytes h0 hgood.2
    have hql2 := sortP_lt (pages := D.first.length - size - 1) h0 hany
    refine loop_rule (fun e w' => ∃ (i : Nat) (G' : Gh) (nv : Value), i ≤ ps.length ∧ e 11 = .int .i64 i ∧ e 10 = nv ∧ e 6 = sv ∧ e 0 = .pointer (some ⟨q, 0, none⟩) ∧
        RLogAt G' κ w' q size came (adds D (copyOps 0 ((sortP ps).take i))) ∧ w'.ownsRow w3.heap.size 3 1 nv i (ints (zs (((sortP ps).take i).map (·.1)))) ∧ (∀ b, nv.ownBlock = some b → G'.own b = κ + 1 ∧ G'.fix b = 0) ∧ Ext (fun c => c = κ) G3 w3 G' w') (fun e _ => ps.length - (intOf (e 11)).toNat)
      ⟨0, G3, .slice none 0 0, by omega, by simp [upd, updO, ev], by simp [upd, updO, ev], by simp [upd, updO, ev, e6], by simp [upd, updO, ev, e0], hlog3, World.ownsRow_nil w3 _ _ _, fun b hb => by simp [Value.ownBlock] at hb, .refl _ _ _⟩ ?_
    clear e7 e1 e0 e6 ho3
    rintro e w4 ⟨i, G4, nv, hi4, e11, e10, e6, e0, hlog4, hn4, hno4, hx4⟩
    have hsH4 : ∀ {w'}, Grow w4 w' → Has 2 w' sv (cellsQ srt) := fun hg => (hsH.keep hx4.keep (fun b hb _ => (hsown b hb).2)).grow hg
    obtain ⟨_, _, _, ho4, p, hq4, hd4⟩ := id hlog4
    have hqp : ∀ {w'}, Grow w4 w' → w'.cell? ⟨q, 0, none⟩ = some (.pointer (some ⟨p, 0, none⟩)) := fun hg => by rw [cell_block (hg.gheap hq4)]; rfl
    have hf : (adds D (copyOps 0 ((sortP ps).take i))).first = D.first := adds_first _ _
    have hops : (adds D (copyOps 0 ((sortP ps).take i))).ops.length ≤ D.ops.length + i := by
      rw [adds_ops, List.length_append, copyOps_length]; simp; omega
    by_cases hlt4 : i < ps.length
    · have hltp : i < (sortP ps).length := by omega
      have hlts : i < srt.length := by omega
      simp (maxSteps := 1000000) (disch := omega) only [↓sy1, sy2, sy3, readOK, sy5, sy6, Nat.reduceEqDiff, ↓reduceIte, sy7, sy8, sy9, sya, oneOf, syb, syc, Nat.reduceAdd, Nat.reduceMul, syd, sye, syf, syg, syh, reduceCtorEq, F8_L3, e11, e10, e6, e0, hslen, Int.ofNat_lt, hlt4, decide_true]
      refine draw8_3 (fun _ => False) ?_
      have hgd : Grow w4 w4.drew := (Keep.refl _ _).drew
      generalize w4.drew = w5 at hgd ⊢
      obtain ⟨b5, o5, hia5, hc50, hc51⟩ := (hsH4 hgd).atQ hlts
      have hu5 : HasB w5 srt[i].2 srt[i].1.2 := ((hh3 _ (List.getElem_mem hlts)).ext hx4).1.grow hgd
      have hb5 : srt[i].1.2.length = 512 := hgood.2 _ (hmem _ (List.getElem_mem hlts))
      simp (maxSteps := 1000000) (disch := omega) only [↓sy1, sy2, sy3, readOK, sy5, sy6, Nat.reduceEqDiff, ↓reduceIte, sy7, sy8, sy9, sya, oneOf, syb, syc, Nat.reduceAdd, Nat.reduceMul, syd, sye, syf, syg, syh, reduceCtorEq, PL8_3, e11, e10, e6, e0, hqp hgd, hia5, hc51]
      rw [show (1 : Int) + (i : Int) = ((1 + i : Nat) : Int) from by omega]
      refine call0 (rwrite_spec (hd4.grow hgd) (n := 1 + i) (by rw [hf]; omega) hb5 hu5 (by omega)) ?_
      rintro _ w6 ⟨rfl, G6, hd6, hx6⟩
      have hx46 : Ext (fun c => c = κ) G4 w4 G6 w6 := (Ext.grow hgd).trans hx6
      have hlog6 := hlog4.put (E := (adds D (copyOps 0 ((sortP ps).take i))).add (.wr (1 + i) srt[i].1.2)) (hqp (Keep.refl _ _)) hx46 rfl hd6
      have hx36 := hx4.trans hx46
      have hn6 : w6.ownsRow w3.heap.size 3 1 nv i (ints (zs (((sortP ps).take i).map (·.1)))) := own_keep hn4 hx46.keep (fun b hb h => by rw [(hno4 b hb).1] at h; omega)
      have hno6 : ∀ b, nv.ownBlock = some b → G6.own b = κ + 1 ∧ G6.fix b = 0 := fun b hb => by
        have hbl := (World.ownsRow.lt hn4 b hb).2
        rw [hx46.own b hbl, hx46.fixe b hbl (by rw [(hno4 b hb).1]; omega)]
        exact hno4 b hb
      obtain ⟨b6, o6, hia6, hc60, _⟩ := (hsH.keep hx36.keep (fun b hb _ => (hsown b hb).2)).atQ hlts
      simp (maxSteps := 1000000) (disch := omega) only [↓sy1, sy2, sy3, readOK, sy5, sy6, Nat.reduceEqDiff, ↓reduceIte, sy7, sy8, sy9, sya, oneOf, syb, syc, Nat.reduceAdd, Nat.reduceMul, syd, sye, syf, syg, syh, reduceCtorEq, e11, e10, e6, e0, hia6, hc60]
      have hga : Grow w6 (w6.alloc (.cells #[.int .i64 srt[i].1.1] 3)) := (Keep.refl _ _).alloc _
      have hsa : (w6.alloc (.cells #[.int .i64 srt[i].1.1] 3)).heap.size = w6.heap.size + 1 := by simp
      have hs36 := hx36.size
      refine app_own2 elemI (by simp only [upd_at, Nat.reduceEqDiff, reduceIte, ev_tmp, ev_const, List.map_cons, List.map_nil, e10]) (by simp only [upd_at, Nat.reduceEqDiff, reduceIte, ev_tmp, ev_const, List.map_cons, List.map_nil]) (own_grow hn6 hga) Has.new1 (m := 1) rfl (by simp [isCell]) (by omega) (by omega) (by omega) ?_
      intro nv' w7 ho7 hg7 hb7
      have hk7 : Keep (fun b => some b = nv.ownBlock) w6 w7 := (Keep.grow hga).trans (Keep.grown hg7)
      simp (maxSteps := 1000000) (disch := omega) only [↓sy1, sy2, sy3, readOK, sy5, sy6, Nat.reduceEqDiff, ↓reduceIte, sy7, sy8, sy9, sya, oneOf, syb, syc, Nat.reduceAdd, Nat.reduceMul, syd, sye, syf, syg, syh, reduceCtorEq, e11, e10, e6, e0]
      have hx67 : Ext (fun c => c = κ + 1) G6 w6 (G6.upto w6.heap.size (fun _ => κ + 1) (fun _ => 0)) w7 := .app hk7 hno6
      have hx37 : Ext (fun c => c = κ) G3 w3 (G6.upto w6.heap.size (fun _ => κ + 1) (fun _ => 0)) w7 := hx36.past hk7 (fun b hb => (World.ownsRow.lt hn6 b hb).1)
      have hstep : adds D (copyOps 0 ((sortP ps).take (i + 1))) = (adds D (copyOps 0 ((sortP ps).take i))).add (.wr (1 + i) srt[i].1.2) := by
        rw [copyOps_take _ 0 i hltp, adds_snoc, show 1 + 0 + i = 1 + i from by omega, hspi i hltp]
      have hnum : ints (zs (((sortP ps).take (i + 1)).map (·.1))) = ints (zs (((sortP ps).take i).map (·.1))) ++ [.int .i64 srt[i].1.1] := by
        have h1 := h0 _ (hmem _ (List.getElem_mem hlts))
        rw [List.take_succ_eq_append_getElem hltp, List.map_append, zs, List.map_append, ints, List.map_append, hspi i hltp]
        simp only [List.map_cons, List.map_nil, ints, zs]
        rw [show ((srt[i].1.1.toNat : Nat) : Int) = srt[i].1.1 from by omega]
      refine R_out ⟨⟨i + 1, _, nv', by omega, rfl, rfl, by rw [hstep]; exact hlog6.ext hx67 (by omega) (by omega), by rw [hnum]; exact ho7, fun b hb => ?_, hx37⟩, ?_⟩
      · rcases hb7 with hb7 | hb7
        · rw [hb7] at hb
          have hbl := (World.ownsRow.lt hn6 b hb).2
          rw [hx67.own b hbl, show (G6.upto w6.heap.size (fun _ => κ + 1) (fun _ => 0)).fix b = G6.fix b from by simp [Gh.upto, hbl]]
          exact hno6 b hb
        · rw [hb7, hsa] at hb
          simp only [Option.some.injEq] at hb
          subst hb
          simp [Gh.upto, show ¬ (w6.heap.size + 1 < w6.heap.size) from by omega]
      · simp only [intOf]; omega
    · have hie4 : i = ps.length := by omega
      subst hie4
      have htk : (sortP ps).take ps.length = sortP ps := List.take_of_length_le (by omega)
      rw [htk] at hlog4 hd4 hops hf hn4
      have hnlen := (World.ownsRow.lt hn4)
      simp (maxSteps := 1000000) (disch := omega) only [↓sy1, sy2, sy3, readOK, sy5, sy6, Nat.reduceEqDiff, ↓reduceIte, sy7, sy8, sy9, sya, oneOf, syb, syc, Nat.reduceAdd, Nat.reduceMul, syd, sye, syf, syg, syh, reduceCtorEq, F8_L3, e11, e10, e6, e0, hslen, show ¬ ((ps.length : Int) < (ps.length : Int)) from by omega, decide_false, hqp (Keep.refl _ _)]
      refine call0 (rflush_spec hd4 (by omega)) ?_
      rintro _ w8 ⟨rfl, G8, hd8, hx8⟩
      have hlog8 := hlog4.put (E := (adds D (copyOps 0 (sortP ps))).add .fl) (hqp (Keep.refl _ _)) hx8 rfl hd8
      have hnH : Held G4 κ w4 nv (ints (zs ((sortP ps).map (·.1)))) := ⟨Has.own hn4, fun b hb _ => ⟨(hnlen b hb).2, by rw [(hno4 b hb).1]; omega⟩⟩
      simp (maxSteps := 1000000) (disch := omega) only [↓sy1, sy2, sy3, readOK, sy5, sy6, Nat.reduceEqDiff, ↓reduceIte, sy7, sy8, sy9, sya, oneOf, syb, syc, Nat.reduceAdd, Nat.reduceMul, syd, sye, syf, syg, syh, reduceCtorEq, e10, e6, e0]
      refine call0 (rsetHead_spec hlog8 (hnH.ext hx8).1 (by rw [List.length_map]; omega) (by simp [Dsk.add]; omega)) ?_
      rintro _ w9 ⟨G9, hlog9, hx9⟩
      simp (maxSteps := 1000000) (disch := omega) only [↓sy1, sy2, sy3, readOK, sy5, sy6, Nat.reduceEqDiff, ↓reduceIte, sy7, sy8, sy9, sya, oneOf, syb, syc, Nat.reduceAdd, Nat.reduceMul, syd, sye, syf, syg, syh, reduceCtorEq, e10, e6, e0]
      refine call0 (rhome_spec hlog9 ((hnH.ext hx8).ext hx9) (by omega) (fun p hp => ⟨hqb p hp, ?_⟩) (fun i hi => ?_) (by simp [Dsk.add]; omega)) ?_
      · have := hql2 p hp
        simp only [Dsk.add, hf]; omega
      · rw [Dsk.image_fl, Dsk.image_wr, Dsk.image_fl, List.getElem?_set_ne (by omega)]
        have := image_copied (sortP ps) 0 D i hi (by omega)
        rw [show 1 + 0 + i = 1 + i from by omega] at this
        exact this
      rintro _ w10 ⟨G10, hlog10, hx10⟩
      simp (maxSteps := 1000000) (disch := omega) only [↓sy1, sy2, sy3, readOK, sy5, sy6, Nat.reduceEqDiff, ↓reduceIte, sy7, sy8, sy9, sya, oneOf, syb, syc, Nat.reduceAdd, Nat.reduceMul, syd, sye, syf, syg, syh, reduceCtorEq]
      have hgr : grouped size D (sortP ps) = homed size ((((adds D (copyOps 0 (sortP ps))).add .fl).add (.wr 0 (headB ((sortP ps).map (·.1))))).add .fl) (sortP ps) := by rw [grouped_eq, homed]
      exact R_out ⟨G10, by rw [hgr]; exact hlog10, hx3.trans ((hx4.trans hx8).trans (hx9.trans hx10))⟩
end Go.Proofs.YtneehlkofcdhoaaGreat

/- Do both disks stand alike? They do (logs). -/
namespace Go.Proofs.YtneehlkofcdhoaaGreat
open Go
set_option linter.unusedSimpArgs false
open Go.RowKit (intOf)
theorem same03_spec {G G' : Gh} {κ κ' : Nat} {w : World} {p q : Nat} {D : Dsk} (h : DiskAt G κ w p D) (h' : RefAt G' κ' w q D) :
    Calls Tryz.prog 18 #[.pointer (some ⟨p, 0, none⟩), .pointer (some ⟨q, 0, none⟩)] w (Ret fun v w' => v = .bool true ∧ Grow w w') := by
  have hok := h.ok
  have hmost := hok.most
  have hwl := D.waiting_length
  have hwr := D.writes_length
  have hil := D.image_length
  have hsl := D.safe_length
  apply enter18
  apply R_in
  simp (maxSteps := 1000000) (disch := omega) only [F18, ↓sy1, sy2, sy3, readOK, sy5, sy6, Nat.reduceEqDiff, ↓reduceIte, sy7, sy8, sy9, sya, oneOf, syb, syc, Nat.reduceAdd, Nat.reduceMul, syd, sye, syf, syg, syh, reduceCtorEq]
  refine call0 (waiting_spec h) ?_
  rintro _ w1 ⟨a, b, rfl, ha, hb, _, hg1⟩
  simp (maxSteps := 1000000) (disch := omega) only [↓sy1, sy2, sy3, readOK, sy5, sy6, Nat.reduceEqDiff, ↓reduceIte, sy7, sy8, sy9, sya, oneOf, syb, syc, Nat.reduceAdd, Nat.reduceMul, syd, sye, syf, syg, syh, reduceCtorEq]
  refine call0 (rwaiting_spec (h'.grow hg1)) ?_
  rintro _ w2 ⟨x, y, rfl, hx, hy, hg2⟩
  simp (maxSteps := 1000000) (disch := omega) only [↓sy1, sy2, sy3, readOK, sy5, sy6, Nat.reduceEqDiff, ↓reduceIte, sy7, sy8, sy9, sya, oneOf, syb, syc, Nat.reduceAdd, Nat.reduceMul, syd, sye, syf, syg, syh, reduceCtorEq]
  refine call0 (sameInts_spec a x _ _ w2 ((Has.own ha).grow hg2) hx (by simp; omega)) ?_
  rintro _ w3 ⟨rfl, hg3⟩
  simp (maxSteps := 1000000) (disch := omega) only [↓sy1, sy2, sy3, readOK, sy5, sy6, Nat.reduceEqDiff, ↓reduceIte, sy7, sy8, sy9, sya, oneOf, syb, syc, Nat.reduceAdd, Nat.reduceMul, syd, sye, syf, syg, syh, reduceCtorEq, decide_true]
  refine call0 (sameInts_spec b y _ _ w3 ((Has.own hb).grow (hg2.trans hg3)) (hy.grow hg3) (by simp; omega)) ?_
  rintro _ w4 ⟨rfl, hg4⟩
  have hg14 := (hg2.trans hg3).trans hg4
  have hd4 := h.grow (hg1.trans hg14)
  have hr4 := h'.grow (hg1.trans hg14)
  simp (maxSteps := 1000000) (disch := omega) only [↓sy1, sy2, sy3, readOK, sy5, sy6, Nat.reduceEqDiff, ↓reduceIte, sy7, sy8, sy9, sya, oneOf, syb, syc, Nat.reduceAdd, Nat.reduceMul, syd, sye, syf, syg, syh, reduceCtorEq, decide_true]
  refine call0 (ops_spec hd4) ?_
  rintro _ w5 ⟨rfl, rfl⟩
  simp (maxSteps := 1000000) (disch := omega) only [↓sy1, sy2, sy3, readOK, sy5, sy6, Nat.reduceEqDiff, ↓reduceIte, sy7, sy8, sy9, sya, oneOf, syb, syc, Nat.reduceAdd, Nat.reduceMul, syd, sye, syf, syg, syh, reduceCtorEq]
  refine call0 (rops_spec hr4) ?_
  rintro _ w6 ⟨rfl, rfl⟩
  simp (maxSteps := 1000000) (disch := omega) only [↓sy1, sy2, sy3, readOK, sy5, sy6, Nat.reduceEqDiff, ↓reduceIte, sy7, sy8, sy9, sya, oneOf, syb, syc, Nat.reduceAdd, Nat.reduceMul, syd, sye, syf, syg, syh, reduceCtorEq, decide_true]
  refine call0 (image_spec hd4) ?_
  rintro i1 w9 ⟨hi1, hg9⟩
  simp (maxSteps := 1000000) (disch := omega) only [↓sy1, sy2, sy3, readOK, sy5, sy6, Nat.reduceEqDiff, ↓reduceIte, sy7, sy8, sy9, sya, oneOf, syb, syc, Nat.reduceAdd, Nat.reduceMul, syd, sye, syf, syg, syh, reduceCtorEq]
  refine call0 (rimage_spec (hr4.grow hg9)) ?_
  rintro i2 w10 ⟨hi2, hg10⟩
  simp (maxSteps := 1000000) (disch := omega) only [↓sy1, sy2, sy3, readOK, sy5, sy6, Nat.reduceEqDiff, ↓reduceIte, sy7, sy8, sy9, sya, oneOf, syb, syc, Nat.reduceAdd, Nat.reduceMul, syd, sye, syf, syg, syh, reduceCtorEq]
  refine call0 (sameAll_spec i1 i2 _ _ w10 ((hi1.grow hg10).has) hi2.has (by omega) (.of512 hok.image)) ?_
  rintro _ w11 ⟨rfl, hg11⟩
  have hg811 := (hg9.trans hg10).trans hg11
  simp (maxSteps := 1000000) (disch := omega) only [↓sy1, sy2, sy3, readOK, sy5, sy6, Nat.reduceEqDiff, ↓reduceIte, sy7, sy8, sy9, sya, oneOf, syb, syc, Nat.reduceAdd, Nat.reduceMul, syd, sye, syf, syg, syh, reduceCtorEq, decide_true]
  refine call0 (safe_spec (hd4.grow hg811)) ?_
  rintro s1 w12 ⟨hs1, hg12⟩
  simp (maxSteps := 1000000) (disch := omega) only [↓sy1, sy2, sy3, readOK, sy5, sy6, Nat.reduceEqDiff, ↓reduceIte, sy7, sy8, sy9, sya, oneOf, syb, syc, Nat.reduceAdd, Nat.reduceMul, syd, sye, syf, syg, syh, reduceCtorEq]
  refine call0 (rsafe_spec ((hr4.grow hg811).grow hg12)) ?_
  rintro s2 w13 ⟨hs2, hg13⟩
  simp (maxSteps := 1000000) (disch := omega) only [↓sy1, sy2, sy3, readOK, sy5, sy6, Nat.reduceEqDiff, ↓reduceIte, sy7, sy8, sy9, sya, oneOf, syb, syc, Nat.reduceAdd, Nat.reduceMul, syd, sye, syf, syg, syh, reduceCtorEq]
  refine call0 (sameAll_spec s1 s2 _ _ w13 ((hs1.grow hg13).has) hs2.has (by omega) (.of512 hok.safe)) ?_
  rintro _ w14 ⟨rfl, hg14'⟩
  simp (maxSteps := 1000000) (disch := omega) only [↓sy1, sy2, sy3, readOK, sy5, sy6, Nat.reduceEqDiff, ↓reduceIte, sy7, sy8, sy9, sya, oneOf, syb, syc, Nat.reduceAdd, Nat.reduceMul, syd, sye, syf, syg, syh, reduceCtorEq, decide_true]
  exact R_out (((((hg1.trans hg14).trans hg811).trans hg12).trans hg13).trans hg14')
theorem rcommit_nil {w : World} {v : Value} : Calls Tryz.prog 8 #[.pointer none, v] w (Ret fun v w' => v = .int .i64 1 ∧ w' = w) := by
  apply enter8
  apply R_in
  simp (maxSteps := 1000000) (disch := omega) only [↓sy1, sy2, sy3, readOK, sy5, sy6, Nat.reduceEqDiff, ↓reduceIte, sy7, sy8, sy9, sya, oneOf, syb, syc, Nat.reduceAdd, Nat.reduceMul, syd, sye, syf, syg, syh, reduceCtorEq, F8]
  exact R_out trivial
theorem rpages_nil {w : World} : Calls Tryz.prog 34 #[.pointer none] w (Ret fun v w' => v = .int .i64 0 ∧ w' = w) := by
  apply enter34
  apply R_in
  simp (maxSteps := 1000000) (disch := omega) only [↓sy1, sy2, sy3, readOK, sy5, sy6, Nat.reduceEqDiff, ↓reduceIte, sy7, sy8, sy9, sya, oneOf, syb, syc, Nat.reduceAdd, Nat.reduceMul, syd, sye, syf, syg, syh, reduceCtorEq, F34]
  exact R_out trivial
theorem rcapacity_nil {w : World} : Calls Tryz.prog 33 #[.pointer none] w (Ret fun v w' => v = .int .i64 0 ∧ w' = w) := by
  apply enter33
  apply R_in
  simp (maxSteps := 1000000) (disch := omega) only [↓sy1, sy2, sy3, readOK, sy5, sy6, Nat.reduceEqDiff, ↓reduceIte, sy7, sy8, sy9, sya, oneOf, syb, syc, Nat.reduceAdd, Nat.reduceMul, syd, sye, syf, syg, syh, reduceCtorEq, F33]
  exact R_out trivial
theorem rcame_nil {w : World} : Calls Tryz.prog 17 #[.pointer none] w (Ret fun v w' => v = .int .i64 0 ∧ w' = w) := by
  apply enter17
  apply R_in
  simp (maxSteps := 1000000) (disch := omega) only [↓sy1, sy2, sy3, readOK, sy5, sy6, Nat.reduceEqDiff, ↓reduceIte, sy7, sy8, sy9, sya, oneOf, syb, syc, Nat.reduceAdd, Nat.reduceMul, syd, sye, syf, syg, syh, reduceCtorEq, F17]
  exact R_out trivial
end Go.Proofs.YtneehlkofcdhoaaGreat

/- DiskLoads: the walk. -/
namespace Go.Proofs.YtneehlkofcdhoaaGreat
open Go
set_option linter.unusedSimpArgs false
open Go.RowKit (intOf)
theorem load1_spec {w : World} {u : Value} {l : List UInt8} (h : HasB w u l) :
    Calls Tryz.prog 42 #[u] w (Ret fun v w' => v = .bool (!decide (l.length = 512)) ∧ w' = w) := by
  apply enter42
  apply R_in
  by_cases h5 : l.length = 512
  · simp (maxSteps := 600000) (disch := omega) only [F42, ↓sy1, sy2, sy3, readOK, sy5, sy6, Nat.reduceEqDiff, ↓reduceIte, sy7, sy8, sy9, sya, oneOf, syb, syc, Nat.reduceAdd, Nat.reduceMul, syd, sye, syf, syg, syh, reduceCtorEq, h.lenB, show ((l.length : Int) = 512) from by omega, decide_true]
    exact R_out (by simp [h5])
  · simp (maxSteps := 600000) (disch := omega) only [F42, ↓sy1, sy2, sy3, readOK, sy5, sy6, Nat.reduceEqDiff, ↓reduceIte, sy7, sy8, sy9, sya, oneOf, syb, syc, Nat.reduceAdd, Nat.reduceMul, syd, sye, syf, syg, syh, reduceCtorEq, h.lenB, show ¬ ((l.length : Int) = 512) from by omega, decide_false]
    exact R_out (by simp [h5])
theorem indexFunc_spec {w : World} {u : Value} {ls : List (List UInt8)} (h : HasR w u ls) (hl : ls.length ≤ 1048576) :
    Calls Tryz.prog 70 #[u, .func (.func 42) #[] #[]] w (Ret fun v w' => ((∀ l ∈ ls, l.length = 512) ∧ v = .int .i64 (-1) ∨ (¬ ∀ l ∈ ls, l.length = 512) ∧ ∃ i : Nat, v = .int .i64 i) ∧ w' = w) := by
  have hcl : callable Tryz.prog 42 = true := by kernel_rfl
  apply enter70
  apply R_in
  simp (maxSteps := 600000) (disch := omega) only [F70, ↓sy1, sy2, sy3, readOK, sy5, sy6, Nat.reduceEqDiff, ↓reduceIte, sy7, sy8, sy9, sya, oneOf, syb, syc, Nat.reduceAdd, Nat.reduceMul, syd, sye, syf, syg, syh, reduceCtorEq, h.len]
  refine loop_rule (fun e w' => ∃ i : Nat, i ≤ ls.length ∧ e 8 = .int .i64 i ∧ e 7 = .int .i64 ls.length ∧ e 0 = u ∧ e 1 = .func (.func 42) #[] #[] ∧ (∀ j (hj : j < ls.length), j < i → ls[j].length = 512) ∧ w' = w) (fun e _ => ls.length - (intOf (e 8)).toNat)
    ⟨0, by omega, by simp [upd, updO, ev], by simp [upd, updO, ev], by simp [upd, updO, ev], by simp [upd, updO, ev], fun j _ hj => by omega, rfl⟩ ?_
  rintro e w' ⟨i, hi, e8, e7, e0, e1, hgood, rfl⟩
  by_cases hlt : i < ls.length
  · obtain ⟨p, x, hp, hpc, hx⟩ := h.get hlt
    simp (maxSteps := 600000) (disch := omega) only [F70_L0, ↓sy1, sy2, sy3, readOK, sy5, sy6, Nat.reduceEqDiff, ↓reduceIte, sy7, sy8, sy9, sya, oneOf, syb, syc, Nat.reduceAdd, Nat.reduceMul, syd, sye, syf, syg, syh, reduceCtorEq, e8, e7, e0, e1, Int.ofNat_lt, hlt, decide_true, hp, hpc]
    refine fval_rule hcl (by simp only [upd_at, Nat.reduceEqDiff, reduceIte, ev_tmp, ev_const, List.map_cons, List.map_nil, e1]) (vs := [x]) (by simp only [upd_at, Nat.reduceEqDiff, reduceIte, ev_tmp, ev_const, List.map_cons, List.map_nil]) (load1_spec hx) ?_
    rintro _ w2 ⟨rfl, rfl⟩
    by_cases h5 : ls[i].length = 512
    · simp (maxSteps := 600000) (disch := omega) only [↓sy1, sy2, sy3, readOK, sy5, sy6, Nat.reduceEqDiff, ↓reduceIte, sy7, sy8, sy9, sya, oneOf, syb, syc, Nat.reduceAdd, Nat.reduceMul, syd, sye, syf, syg, syh, reduceCtorEq, e8, e7, e0, e1, h5, decide_true]
      refine R_out ⟨⟨i + 1, by omega, rfl, fun j hj hji => ?_⟩, ?_⟩
      · by_cases hj' : j = i
        · subst hj'; exact h5
        · exact hgood j hj (by omega)
      · simp only [intOf]; omega
    · simp (maxSteps := 600000) (disch := omega) only [↓sy1, sy2, sy3, readOK, sy5, sy6, Nat.reduceEqDiff, ↓reduceIte, sy7, sy8, sy9, sya, oneOf, syb, syc, Nat.reduceAdd, Nat.reduceMul, syd, sye, syf, syg, syh, reduceCtorEq, e8, e7, e0, e1, h5, decide_false]
      exact R_out (.inr ⟨fun hall => h5 (hall _ (List.getElem_mem hlt)), i, rfl⟩)
  · simp (maxSteps := 600000) (disch := omega) only [F70_L0, ↓sy1, sy2, sy3, readOK, sy5, sy6, Nat.reduceEqDiff, ↓reduceIte, sy7, sy8, sy9, sya, oneOf, syb, syc, Nat.reduceAdd, Nat.reduceMul, syd, sye, syf, syg, syh, reduceCtorEq, e8, e7, e0, e1, Int.ofNat_lt, hlt, decide_false]
    refine R_out (.inl fun l hl' => ?_)
    obtain ⟨j, hj, rfl⟩ := List.getElem_of_mem hl'
    exact hgood j hj (by omega)
theorem containsFunc_spec {w : World} {u : Value} {ls : List (List UInt8)} (h : HasR w u ls) (hl : ls.length ≤ 1048576) :
    Calls Tryz.prog 41 #[u, .func (.func 42) #[] #[]] w (Ret fun v w' => ((∀ l ∈ ls, l.length = 512) ∧ v = .bool false ∨ (¬ ∀ l ∈ ls, l.length = 512) ∧ v = .bool true) ∧ w' = w) := by
  apply enter41
  apply R_in
  simp (maxSteps := 600000) (disch := omega) only [F41, ↓sy1, sy2, sy3, readOK, sy5, sy6, Nat.reduceEqDiff, ↓reduceIte, sy7, sy8, sy9, sya, oneOf, syb, syc, Nat.reduceAdd, Nat.reduceMul, syd, sye, syf, syg, syh, reduceCtorEq]
  refine call0 (indexFunc_spec h hl) ?_
  rintro v w1 ⟨⟨hall, rfl⟩ | ⟨hno, i, rfl⟩, rfl⟩
  · simp (maxSteps := 600000) (disch := omega) only [↓sy1, sy2, sy3, readOK, sy5, sy6, Nat.reduceEqDiff, ↓reduceIte, sy7, sy8, sy9, sya, oneOf, syb, syc, Nat.reduceAdd, Nat.reduceMul, syd, sye, syf, syg, syh, reduceCtorEq, show ¬ ((0 : Int) ≤ -1) from by omega, decide_false]
    exact R_out (.inl hall)
  · simp (maxSteps := 600000) (disch := omega) only [↓sy1, sy2, sy3, readOK, sy5, sy6, Nat.reduceEqDiff, ↓reduceIte, sy7, sy8, sy9, sya, oneOf, syb, syc, Nat.reduceAdd, Nat.reduceMul, syd, sye, syf, syg, syh, reduceCtorEq, show ((0 : Int) ≤ (i : Int)) from by omega, decide_true]
    exact R_out (.inr hno)
theorem load_spec {G : Gh} (κ : Nat) {w : World} {u : Value} {ls : List (List UInt8)} (h : HasR w u ls) (hl : ls.length ≤ 1048576) (hsm : Small ls) :
    Calls Tryz.prog 11 #[u] w (Ret fun v w' => (ls.length < 1 ∨ 4096 < ls.length → v = .tuple #[.pointer none, .int .i64 2] ∧ w' = w) ∧ (1 ≤ ls.length → ls.length ≤ 4096 → (¬ ∀ l ∈ ls, l.length = 512) → v = .tuple #[.pointer none, .int .i64 3] ∧ w' = w) ∧
      (1 ≤ ls.length → ls.length ≤ 4096 → (∀ l ∈ ls, l.length = 512) → ∃ p G', v = .tuple #[.pointer (some ⟨p, 0, none⟩), .int .i64 0] ∧ w.heap.size ≤ p ∧ DiskAt G' κ w' p ⟨ls, []⟩ ∧ Ext0 G w G' w')) := by
  apply enter11
  apply R_in
  by_cases h1 : ls.length < 1
  · simp (maxSteps := 600000) (disch := omega) only [F11, ↓sy1, sy2, sy3, readOK, sy5, sy6, Nat.reduceEqDiff, ↓reduceIte, sy7, sy8, sy9, sya, oneOf, syb, syc, Nat.reduceAdd, Nat.reduceMul, syd, sye, syf, syg, syh, reduceCtorEq, h.len, show ((ls.length : Int) < 1) from by omega, decide_true]
    exact R_out ⟨fun h => by omega, fun h => by omega⟩
  by_cases h2 : 4096 < ls.length
  · simp (maxSteps := 600000) (disch := omega) only [F11, ↓sy1, sy2, sy3, readOK, sy5, sy6, Nat.reduceEqDiff, ↓reduceIte, sy7, sy8, sy9, sya, oneOf, syb, syc, Nat.reduceAdd, Nat.reduceMul, syd, sye, syf, syg, syh, reduceCtorEq, h.len, show ¬ ((ls.length : Int) < 1) from by omega, show ((4096 : Int) < (ls.length : Int)) from by omega, decide_true, decide_false]
    exact R_out ⟨fun _ h => by omega, fun _ h => by omega⟩
  simp (maxSteps := 600000) (disch := omega) only [F11, ↓sy1, sy2, sy3, readOK, sy5, sy6, Nat.reduceEqDiff, ↓reduceIte, sy7, sy8, sy9, sya, oneOf, syb, syc, Nat.reduceAdd, Nat.reduceMul, syd, sye, syf, syg, syh, reduceCtorEq, h.len, show ¬ ((ls.length : Int) < 1) from by omega, show ¬ ((4096 : Int) < (ls.length : Int)) from by omega, decide_false]
  refine call0 (containsFunc_spec h hl) ?_
  rintro v w1 ⟨⟨hall, rfl⟩ | ⟨hno, rfl⟩, rfl⟩
  · simp (maxSteps := 600000) (disch := omega) only [↓sy1, sy2, sy3, readOK, sy5, sy6, Nat.reduceEqDiff, ↓reduceIte, sy7, sy8, sy9, sya, oneOf, syb, syc, Nat.reduceAdd, Nat.reduceMul, syd, sye, syf, syg, syh, reduceCtorEq]
    refine call0 (copied_spec u ls w1 h hl hsm) ?_
    rintro c w2 ⟨hc, hg2⟩
    simp (maxSteps := 600000) (disch := omega) only [↓sy1, sy2, sy3, readOK, sy5, sy6, Nat.reduceEqDiff, ↓reduceIte, sy7, sy8, sy9, sya, oneOf, syb, syc, Nat.reduceAdd, Nat.reduceMul, syd, sye, syf, syg, syh, reduceCtorEq]
    have hx : Ext0 G w1 (G.upto w1.heap.size (fun _ => 0) (fun _ => maxLen)) w2 := .upto hg2 _ _
    have hra : RowsAt (G.upto w1.heap.size (fun _ => 0) (fun _ => maxLen)) w2 c ls := hc.rowsAt (fun b hb => by simp [Gh.upto, Nat.not_lt.2 hb])
    have hok : (⟨ls, []⟩ : Dsk).Ok := ⟨hall, fun n b hm => (by cases hm), by simp only; omega, by simp only; omega⟩
    refine call0 (begun_spec κ hra hok) ?_
    rintro v w3 ⟨p, G', rfl, hp, hd, hx3⟩
    simp (maxSteps := 600000) (disch := omega) only [↓sy1, sy2, sy3, readOK, sy5, sy6, Nat.reduceEqDiff, ↓reduceIte, sy7, sy8, sy9, sya, oneOf, syb, syc, Nat.reduceAdd, Nat.reduceMul, syd, sye, syf, syg, syh, reduceCtorEq]
    exact R_out ⟨fun h => by omega, fun _ _ h => absurd hall h, fun _ _ _ => ⟨p, G', rfl, Nat.le_trans hg2.size hp, hd, hx.trans hx3⟩⟩
  · simp (maxSteps := 600000) (disch := omega) only [↓sy1, sy2, sy3, readOK, sy5, sy6, Nat.reduceEqDiff, ↓reduceIte, sy7, sy8, sy9, sya, oneOf, syb, syc, Nat.reduceAdd, Nat.reduceMul, syd, sye, syf, syg, syh, reduceCtorEq]
    exact R_out ⟨fun h => by omega, fun _ _ h => absurd h hno⟩
theorem rload_spec {G : Gh} (κ : Nat) {w : World} {u : Value} {ls : List (List UInt8)} (h : HasR w u ls) (hl : ls.length ≤ 1048576) (hsm : Small ls) :
    Calls Tryz.prog 12 #[u] w (Ret fun v w' => (ls.length < 1 ∨ 4096 < ls.length → v = .tuple #[.pointer none, .int .i64 2] ∧ w' = w) ∧ (1 ≤ ls.length → ls.length ≤ 4096 → (¬ ∀ l ∈ ls, l.length = 512) → v = .tuple #[.pointer none, .int .i64 3] ∧ w' = w) ∧
      (1 ≤ ls.length → ls.length ≤ 4096 → (∀ l ∈ ls, l.length = 512) → ∃ p G', v = .tuple #[.pointer (some ⟨p, 0, none⟩), .int .i64 0] ∧ w.heap.size ≤ p ∧ RefAt G' κ w' p ⟨ls, []⟩ ∧ Ext0 G w G' w')) := by
  apply enter12
  apply R_in
  by_cases h1 : ls.length < 1
  · simp (maxSteps := 600000) (disch := omega) only [F12, ↓sy1, sy2, sy3, readOK, sy5, sy6, Nat.reduceEqDiff, ↓reduceIte, sy7, sy8, sy9, sya, oneOf, syb, syc, Nat.reduceAdd, Nat.reduceMul, syd, sye, syf, syg, syh, reduceCtorEq, h.len, show ((ls.length : Int) < 1) from by omega, decide_true]
    exact R_out ⟨fun h => by omega, fun h => by omega⟩
  by_cases h2 : 4096 < ls.length
  · simp (maxSteps := 600000) (disch := omega) only [F12, ↓sy1, sy2, sy3, readOK, sy5, sy6, Nat.reduceEqDiff, ↓reduceIte, sy7, sy8, sy9, sya, oneOf, syb, syc, Nat.reduceAdd, Nat.reduceMul, syd, sye, syf, syg, syh, reduceCtorEq, h.len, show ¬ ((ls.length : Int) < 1) from by omega, show ((4096 : Int) < (ls.length : Int)) from by omega, decide_true, decide_false]
    exact R_out ⟨fun _ h => by omega, fun _ h => by omega⟩
  simp (maxSteps := 600000) (disch := omega) only [F12, ↓sy1, sy2, sy3, readOK, sy5, sy6, Nat.reduceEqDiff, ↓reduceIte, sy7, sy8, sy9, sya, oneOf, syb, syc, Nat.reduceAdd, Nat.reduceMul, syd, sye, syf, syg, syh, reduceCtorEq, h.len, show ¬ ((ls.length : Int) < 1) from by omega, show ¬ ((4096 : Int) < (ls.length : Int)) from by omega, decide_false]
  refine loop_rule (fun e w' => ∃ i : Nat, i ≤ ls.length ∧ e 4 = .int .i64 i ∧ e 0 = u ∧ (∀ j (hj : j < ls.length), j < i → ls[j].length = 512) ∧ w' = w) (fun e _ => ls.length - (intOf (e 4)).toNat)
    ⟨0, by omega, by simp [upd, updO, ev], by simp [upd, updO, ev], fun j _ hj => by omega, rfl⟩ ?_
  rintro e w' ⟨i, hi, e4, e0, hgood, rfl⟩
  by_cases hlt : i < ls.length
  · obtain ⟨p, x, hp, hpc, hx⟩ := h.get hlt
    by_cases h5 : ls[i].length = 512
    · simp (maxSteps := 600000) (disch := omega) only [F12_L0, ↓sy1, sy2, sy3, readOK, sy5, sy6, Nat.reduceEqDiff, ↓reduceIte, sy7, sy8, sy9, sya, oneOf, syb, syc, Nat.reduceAdd, Nat.reduceMul, syd, sye, syf, syg, syh, reduceCtorEq, e4, e0, h.len, Int.ofNat_lt, hlt, decide_true, hp, hpc, hx.lenB, show ((ls[i].length : Int) = 512) = True from by simp [h5]]
      refine R_out ⟨⟨i + 1, by omega, rfl, fun j hj hji => ?_⟩, ?_⟩
      · by_cases hj' : j = i
        · subst hj'; exact h5
        · exact hgood j hj (by omega)
      · simp only [intOf]; omega
    · simp (maxSteps := 600000) (disch := omega) only [F12_L0, ↓sy1, sy2, sy3, readOK, sy5, sy6, Nat.reduceEqDiff, ↓reduceIte, sy7, sy8, sy9, sya, oneOf, syb, syc, Nat.reduceAdd, Nat.reduceMul, syd, sye, syf, syg, syh, reduceCtorEq, e4, e0, h.len, Int.ofNat_lt, hlt, decide_true, decide_false, hp, hpc, hx.lenB, show ¬ ((ls[i].length : Int) = 512) from by omega]
      exact R_out ⟨fun h => by omega, fun _ _ h => absurd (h _ (List.getElem_mem hlt)) h5⟩
  · have hall : ∀ l ∈ ls, l.length = 512 := fun l hl' => by
      obtain ⟨j, hj, rfl⟩ := List.getElem_of_mem hl'
      exact hgood j hj (by omega)
    simp (maxSteps := 600000) (disch := omega) only [F12_L0, ↓sy1, sy2, sy3, readOK, sy5, sy6, Nat.reduceEqDiff, ↓reduceIte, sy7, sy8, sy9, sya, oneOf, syb, syc, Nat.reduceAdd, Nat.reduceMul, syd, sye, syf, syg, syh, reduceCtorEq, e4, e0, h.len, Int.ofNat_lt, hlt, decide_false]
    refine call0 (copyAll_spec u ls w' h hl hsm) ?_
    rintro c w2 ⟨hc, hg2⟩
    have hcc : isCell c = true := by obtain ⟨vs, h, _⟩ := hc.has; exact h.isCell
    have hx : Ext0 G w' (G.upto w'.heap.size (fun _ => κ) (fun _ => maxLen)) w2 := .upto hg2 _ _
    have hra : RowsAt (G.upto w'.heap.size (fun _ => κ) (fun _ => maxLen)) w2 c ls := hc.rowsAt (fun b hb => by simp [Gh.upto, Nat.not_lt.2 hb])
    have hg3 : Grow w2 (w2.alloc (.cells #[c, .slice none 0 0] 84)) := (Keep.refl _ _).alloc _
    have hb3 := heap_alloc_new w2 (.cells #[c, .slice none 0 0] 84)
    generalize hw3 : w2.alloc (.cells #[c, .slice none 0 0] 84) = w3 at hg3 hb3
    simp (maxSteps := 600000) (disch := omega) only [↓sy1, sy2, sy3, readOK, sy5, sy6, Nat.reduceEqDiff, ↓reduceIte, sy7, sy8, sy9, sya, oneOf, syb, syc, Nat.reduceAdd, Nat.reduceMul, syd, sye, syf, syg, syh, reduceCtorEq, fill_of2, fillF_1of2 (b := .slice none 0 0) hcc, Option.map_some, agg2_cells (y := .slice none 0 0) hcc rfl, hw3]
    have hxb : Ext0 (G.upto w'.heap.size (fun _ => κ) (fun _ => maxLen)) w2 ((G.upto w'.heap.size (fun _ => κ) (fun _ => maxLen)).at w2.heap.size κ 0) w3 := .fresh hg3 (Nat.le_refl _)
    have hok : (⟨ls, []⟩ : Dsk).Ok := ⟨hall, fun n b hm => (by cases hm), by simp only; omega, by simp only; omega⟩
    exact R_out ⟨fun h => by omega, fun _ _ h => absurd hall h, fun _ _ _ => ⟨w2.heap.size, _, rfl, hg2.size, ⟨hok, by simp, c, .slice none 0 0, [], hb3, Gh.at_own, Gh.at_fix, hra.ext hxb, ⟨Has.nil 3 w3, fun _ _ _ _ h => by cases h⟩, trivial⟩, hx.trans hxb⟩⟩
end Go.Proofs.YtneehlkofcdhoaaGreat

/- Deeds in memory; all pages; groups one after the other. -/
namespace Go.Proofs.YtneehlkofcdhoaaGreat
open Go
set_option linter.unusedSimpArgs false
open Go.RowKit (intOf)
def DeedsAt (w : World) (v : Value) (l : List Deed3) : Prop :=
  ∃ xs, Has 3 w v xs ∧ xs.length = 3 * l.length ∧ ∀ i (h : i < l.length), ∃ u, xs[3 * i]? = some (.bool l[i].short) ∧ xs[3 * i + 1]? = some u ∧ xs[3 * i + 2]? = some (.int .u8 (l[i].byte.toNat : Int)) ∧ HasX w u l[i].pages
theorem DeedsAt.keep {S : Nat → Prop} {w w' : World} {v : Value} {l : List Deed3} (h : DeedsAt w v l) (hk : Keep S w w') (hs : ∀ b, b < w.heap.size → ¬ S b) : DeedsAt w' v l := by
  obtain ⟨xs, h1, h2, h3⟩ := h
  refine ⟨xs, h1.keep hk (fun b hb hne => hs b (h1.lt hne hb)), h2, fun i hi => ?_⟩
  obtain ⟨u, h4, h5, h6, h7⟩ := h3 i hi
  exact ⟨u, h4, h5, h6, h7.keep hk hs⟩
theorem DeedsAt.grow {w w' : World} {v : Value} {l : List Deed3} (h : DeedsAt w v l) (hk : Grow w w') : DeedsAt w' v l := h.keep hk (fun _ _ => id)
theorem DeedsAt.len {w : World} {v : Value} {l : List Deed3} (h : DeedsAt w v l) (w2 : World) : lenF w2 0 v = some (.int .i64 l.length) := by
  obtain ⟨xs, h1, h2, _⟩ := h
  rw [h1.lenk (by omega), h2, Nat.mul_div_cancel_left _ (by omega)]
theorem DeedsAt.at {w : World} {v : Value} {l : List Deed3} (h : DeedsAt w v l) {i : Nat} (hi : i < l.length) :
    ∃ a u, iaF 3 v (.int .i64 i) = some (.pointer (some a)) ∧ loadN w a 0 3 = some [.bool l[i].short, u, .int .u8 (l[i].byte.toNat : Int)] ∧ Deed3.At w (.agg #[.bool l[i].short, u, .int .u8 (l[i].byte.toNat : Int)]) l[i] := by
  obtain ⟨xs, h1, h2, h3⟩ := h
  obtain ⟨b, o, h5, h6, _⟩ := h1.idxk (i := i) (by omega)
  obtain ⟨u, h7, h8, h9, h10⟩ := h3 i hi
  obtain ⟨x, hx, hxc⟩ := h6 0 (by omega)
  obtain ⟨y, hy, hyc⟩ := h6 1 (by omega)
  obtain ⟨z, hz, hzc⟩ := h6 2 (by omega)
  rw [show i * 3 + 0 = 3 * i from by omega, h7] at hx
  rw [show i * 3 + 1 = 3 * i + 1 from by omega, h8] at hy
  rw [show i * 3 + 2 = 3 * i + 2 from by omega, h9] at hz
  cases hx; cases hy; cases hz
  exact ⟨_, u, h5, loadN3 hxc hyc hzc, u, rfl, h10⟩
/-- All pages. -/
def lpages (size : Nat) (D : Dsk) : List (List UInt8) := (D.image.drop (size + 1)).take 100
theorem lpages_length (size : Nat) (D : Dsk) : (lpages size D).length = min 100 (D.first.length - size - 1) := by
  simp [lpages, Dsk.image_length]; omega
theorem lpages_get {size : Nat} {D : Dsk} {i : Nat} (h : i < (lpages size D).length) : (lpages size D)[i] = D.image[size + 1 + i]'(by rw [lpages_length] at h; rw [D.image_length]; omega) := by
  simp [lpages]
theorem lpages_small {G : Gh} {κ : Nat} {w : World} {q size came : Nat} {D : Dsk} (h : LogAt G κ w q size came D) : Small (lpages size D) := fun l hl => by
  rw [h.cells.choose_spec.1.ok.image l (List.mem_of_mem_drop (List.mem_of_mem_take hl))]; omega
theorem ccode_ok {n size : Nat} {ps : List Pg} (h : ccode n size ps = 0) (hne : ps ≠ []) : ps.length ≤ min size 100 ∧ ¬ anyOut (n - size - 1) ps ∧ goodP ps := by
  simp only [ccode, if_neg hne] at h
  split at h
  · cases h
  · split at h
    · cases h
    · split at h
      · exact ⟨by omega, by assumption, by assumption⟩
      · cases h
theorem cdone_ok {n size : Nat} {D : Dsk} {ps : List Pg} (hn : D.first.length = n) (h : ccode n size ps = 0) (hne : ps ≠ []) : cdone size D ps = grouped size D (sortP ps) := by
  unfold cdone; rw [hn, if_pos ⟨hne, h⟩]
/-- Nothing waits. -/
def Flat (D : Dsk) : Prop := D.wait = fun _ => []
theorem Flat.waiting {D : Dsk} (h : Flat D) : D.waiting = [] := by
  unfold Dsk.waiting; rw [h]; simp
theorem cdone_flat {size : Nat} {D : Dsk} {ps : List Pg} (h : Flat D) : Flat (cdone size D ps) := by
  unfold cdone
  split
  · rw [grouped_eq]; exact Dsk.wait_fl _
  · exact h
theorem zero_flat (n : Nat) : Flat (Dsk.zero n) := rfl
theorem cdone_more (size : Nat) (D : Dsk) (ps : List Pg) : (cdone size D ps).ops.length = D.ops.length + if ccode D.first.length size ps = 0 ∧ ps ≠ [] then 2 * ps.length + 6 else 0 := by
  unfold cdone
  by_cases h : ps ≠ [] ∧ ccode D.first.length size ps = 0
  · rw [if_pos h, if_pos h.symm, grouped_ops, sortP_length]
  · rw [if_neg h, if_neg (fun h' => h h'.symm)]; rfl
/-- Groups, one after the other. -/
def commits (size : Nat) (D : Dsk) (l : List Deed3) : Dsk := l.foldl (fun D x => cdone size D x.pgs) D
theorem commits_snoc (size : Nat) (D : Dsk) (l : List Deed3) (x : Deed3) : commits size D (l ++ [x]) = cdone size (commits size D l) x.pgs := by simp [commits, List.foldl_append]
theorem commits_take {size : Nat} {D : Dsk} {l : List Deed3} {i : Nat} (h : i < l.length) : commits size D (l.take (i + 1)) = cdone size (commits size D (l.take i)) l[i].pgs := by
  rw [List.take_succ_eq_append_getElem h, commits_snoc]
theorem cdone_ops (size : Nat) (D : Dsk) (ps : List Pg) : (cdone size D ps).ops.length ≤ D.ops.length + 206 := by
  unfold cdone
  split
  · rename_i h
    have : ps.length ≤ 100 := by
      have h2 := h.2
      simp only [ccode, if_neg h.1] at h2
      split at h2
      · cases h2
      · omega
    rw [grouped_ops, sortP_length]; omega
  · omega
theorem commits_first (size : Nat) : ∀ (l : List Deed3) (D : Dsk), (commits size D l).first = D.first
  | [], _ => rfl
  | x :: l, D => (commits_first size l (cdone size D x.pgs)).trans (cdone_first _ _ _)
theorem commits_ops (size : Nat) : ∀ (l : List Deed3) (D : Dsk), (commits size D l).ops.length ≤ D.ops.length + 206 * l.length
  | [], _ => by simp [commits]
  | x :: l, D => by
    have h1 := commits_ops size l (cdone size D x.pgs)
    have h2 := cdone_ops size D x.pgs
    show (commits size (cdone size D x.pgs) l).ops.length ≤ _
    simp only [List.length_cons]; omega
theorem commits_flat {size : Nat} : ∀ {l : List Deed3} {D : Dsk}, Flat D → Flat (commits size D l)
  | [], _, h => h
  | x :: l, D, h => commits_flat (l := l) (cdone_flat (ps := x.pgs) h)
theorem commits_below {D : Dsk} {size : Nat} {l : List Deed3} {i k : Nat} (hi : i ≤ k) (hD : D.ops.length = 0) : (commits size D (l.take i)).ops.length ≤ 206 * k := by
  have h1 := commits_ops size (l.take i) D
  rw [hD, List.length_take] at h1
  have h2 : 206 * min i l.length ≤ 206 * k := Nat.mul_le_mul_left _ (by omega)
  omega
theorem pgs_most (x : Deed3) : x.pgs.length ≤ 1048576 := by rw [x.pgs_length]; omega
/-- Its head is none, or empty. -/
def Calm (D : Dsk) : Prop := D.image[0]? = some zsec ∨ D.image[0]? = some (headB [])
theorem cdone_calm {size : Nat} {D : Dsk} {ps : List Pg} (h : Calm D) (hf : 0 < D.first.length) : Calm (cdone size D ps) := by
  unfold cdone
  split
  · exact .inr (grouped_head hf)
  · exact h
theorem commits_calm {size : Nat} : ∀ {l : List Deed3} {D : Dsk}, Calm D → 0 < D.first.length → Calm (commits size D l)
  | [], _, h, _ => h
  | x :: l, D, h, hf => commits_calm (l := l) (cdone_calm (ps := x.pgs) h hf) (by rw [cdone_first]; exact hf)
theorem zero_calm {n : Nat} (h : 0 < n) : Calm (Dsk.zero n) := .inl (zero_image h)
end Go.Proofs.YtneehlkofcdhoaaGreat

/- WalBroken: the walk. -/
namespace Go.Proofs.YtneehlkofcdhoaaGreat
open Go
set_option linter.unusedSimpArgs false
open Go.RowKit (intOf)
theorem bs_put (l : List UInt8) (j : Nat) (c : UInt8) : (bs l).set j (.int .u8 c.toNat) = bs (l.set j c) := by simp [bs, List.map_set]
/-- A row behind a store into a row that may share its block. -/
theorem own_touch {B B' : Nat} {t : TypeId} {w w' : World} {u u2 : Value} {l l2 : List UInt8} {j : Nat} {c : UInt8} {a : Addr} (p6 : w.ownsRow B t 1 u l.length (bs l)) (hj : j < l.length) (ha : iaF 1 u (.int .i64 j) = some (.pointer (some a)))
    (hst : stF w (.pointer (some a)) (.int .u8 c.toNat) = some (undef, w')) (hua : u.ownBlock = some a.block) (hkb : Keep (fun b => b = a.block) w w') (p8 : w.ownsRow B' t 1 u2 l2.length (bs l2)) :
    ∃ l3 : List UInt8, l3.length = l2.length ∧ w'.ownsRow B' t 1 u2 l3.length (bs l3) := by
  by_cases hb : u2.ownBlock = some a.block
  · by_cases hjk : j < l2.length
    · refine ⟨l2.set j c, by simp, ?_⟩
      obtain ⟨a2, w2, ha2, hst2, ho2, _, hua2⟩ := own_store p8 hjk (u := .int .u8 (c.toNat : Int)) rfl
      have haa : a2 = a := by
        obtain ⟨_, ⟨rfl, _⟩ | ⟨g, cap, cur, rfl, _⟩⟩ := p8
        · simp [Value.ownBlock] at hb
        · obtain ⟨_, ⟨rfl, _⟩ | ⟨g', cap', cur', rfl, _⟩⟩ := p6
          · simp [Value.ownBlock] at hua
          · simp [Value.ownBlock] at hb hua
            rw [iaF_s (by omega)] at ha ha2
            cases ha; cases ha2
            rw [hua, hb]
      subst haa
      rw [hst] at hst2
      cases hst2
      rw [bs_put] at ho2
      rw [List.length_set]; exact ho2
    · refine ⟨l2, rfl, ?_⟩
      obtain ⟨q1, ⟨rfl, _⟩ | ⟨g, cap, cur, rfl, q2, q3, q4, q5, q6, q7⟩⟩ := p8
      · simp [Value.ownBlock] at hb
      · obtain ⟨r1, ⟨rfl, _⟩ | ⟨g', cap', cur', rfl, r2, r3, r4, r5, r6, r7⟩⟩ := p6
        · simp [Value.ownBlock] at hua
        · simp [Value.ownBlock] at hb hua
          have hgg : g' = g := by omega
          subst hgg
          rw [q3] at r3; cases r3
          rw [iaF_s (by omega), add_lit] at ha
          cases ha
          have hset : w' = w.setCell ⟨g', 0 + (j : Int).toNat * 1, none⟩ (.int .u8 (c.toNat : Int)) := by
            simp only [stF] at hst
            split at hst
            · simpa using hst.symm
            · cases hst
          refine ⟨q1, .inr ⟨g', cap, cur.setIfInBounds j (.int .u8 (c.toNat : Int)), rfl, q2, ?_, q4, q5, by simpa using q6, ?_⟩⟩
          · have hg : g' < w.heap.size := (Array.getElem?_eq_some_iff.1 q3).1
            rw [hset]
            simp only [World.setCell, Array.getElem?_modify, if_pos rfl, q3, Option.map_some]
            simp
          · rw [← q7]
            simp only [Nat.mul_one, Array.toList_setIfInBounds, List.take_set]
            rw [List.set_eq_of_length_le]
            rw [List.length_take]; omega
  · exact ⟨l2, rfl, own_keep p8 hkb (fun b' hb' he => hb (he ▸ hb'))⟩
/-- An image of one's own: n sectors of 512 bytes. -/
def FreshI (B : Nat) (w : World) (v : Value) (n : Nat) : Prop := ∃ ls : List (List UInt8), FreshR B 43 5 w v ls ∧ ls.length = n ∧ ∀ l ∈ ls, l.length = 512
theorem FreshI.len {B : Nat} {w : World} {v : Value} {n : Nat} (h : FreshI B w v n) (w2 : World) : lenF w2 0 v = some (.int .i64 n) := by
  obtain ⟨ls, h1, rfl, _⟩ := h
  exact h1.has.len w2
theorem FreshI.store {B : Nat} {w : World} {v : Value} {n i j : Nat} {c : UInt8} (h : FreshI B w v n) (hi : i < n) (hj : j < 512) :
    ∃ a u a2 w', iaF 1 v (.int .i64 i) = some (.pointer (some a)) ∧ w.cell? a = some u ∧ iaF 1 u (.int .i64 j) = some (.pointer (some a2)) ∧ stF w (.pointer (some a2)) (.int .u8 c.toNat) = some (undef, w') ∧ FreshI B w' v n ∧ Keep (fun b => b = a2.block) w w' ∧ B ≤ a2.block := by
  obtain ⟨ls, ⟨vs, h1, h2⟩, rfl, h512⟩ := h
  have hvl := h2.length
  obtain ⟨a, ha, hac, _⟩ := (Has.own h1).idx (i := i) (by omega)
  have p6 := h2.get i (by omega) hi
  have hl := h512 _ (List.getElem_mem hi)
  obtain ⟨a2, w', ha2, hst, ho, hk, hua⟩ := own_store p6 (i := j) (by omega) (u := .int .u8 (c.toNat : Int)) rfl
  have hkb : Keep (fun b => b = a2.block) w w' := hk.mono (fun b _ h => by rw [hua] at h; exact (Option.some.inj h).symm)
  refine ⟨a, vs[i]'(by omega), a2, w', ha, hac, ha2, hst, ?_, hkb, (World.ownsRow.lt p6 _ hua).1⟩
  have key : ∀ (us : List Value) (ks : List (List UInt8)), RowsO B 5 w us ks → (∀ l ∈ ks, l.length = 512) → ∃ ks', RowsO B 5 w' us ks' ∧ ks'.length = ks.length ∧ ∀ l ∈ ks', l.length = 512 := by
    intro us
    induction us with
    | nil => intro ks h _; cases ks with
      | nil => exact ⟨[], trivial, rfl, by simp⟩
      | cons k ks => exact h.elim
    | cons u us ih => intro ks h h5; cases ks with
      | nil => exact h.elim
      | cons k ks =>
        obtain ⟨h3, h4⟩ := h
        obtain ⟨k', hk', hok'⟩ := own_touch p6 (by omega) ha2 hst hua hkb h3
        obtain ⟨ks', q1, q2, q3⟩ := ih ks h4 (fun l hl => h5 l (by simp [hl]))
        refine ⟨k' :: ks', ⟨hok', q1⟩, by simp [q2], fun l hl => ?_⟩
        rcases List.mem_cons.1 hl with rfl | hl
        · rw [hk']; exact h5 k (by simp)
        · exact q3 l hl
  obtain ⟨ls', q1, q2, q3⟩ := key vs ls h2 h512
  exact ⟨ls', ⟨vs, by rw [q2]; exact own_keep h1 hkb (fun b hb he => own_ne p6 h1 (by decide) hua (he ▸ hb)), q1⟩, q2, q3⟩
structure Spoil where
  sector : Int
  at_ : Int
  byte : UInt8
def Spoil.cells (s : Spoil) : List Value := [.int .i64 s.sector, .int .i64 s.at_, .int .u8 (s.byte.toNat : Int)]
def SpoilsAt (w : World) (v : Value) (l : List Spoil) : Prop := Has 3 w v (l.flatMap Spoil.cells)
theorem spoils_length (l : List Spoil) : (l.flatMap Spoil.cells).length = 3 * l.length := by
  induction l with
  | nil => rfl
  | cons s l ih => rw [List.flatMap_cons, List.length_append, ih]; simp [Spoil.cells]; omega
theorem spoils_get : ∀ (l : List Spoil) (i : Nat) (h : i < l.length), (l.flatMap Spoil.cells)[3 * i]? = some (.int .i64 l[i].sector) ∧ (l.flatMap Spoil.cells)[3 * i + 1]? = some (.int .i64 l[i].at_) ∧ (l.flatMap Spoil.cells)[3 * i + 2]? = some (.int .u8 (l[i].byte.toNat : Int))
  | s :: l, 0, _ => ⟨rfl, rfl, rfl⟩
  | s :: l, i + 1, h => by
    rw [List.flatMap_cons, show 3 * (i + 1) = 3 * i + 1 + 1 + 1 from by omega]
    simpa [Spoil.cells] using spoils_get l i (by simpa using h)
theorem SpoilsAt.len {w : World} {v : Value} {l : List Spoil} (h : SpoilsAt w v l) (w2 : World) : lenF w2 0 v = some (.int .i64 l.length) := by
  rw [Has.lenk h (by omega), spoils_length, Nat.mul_div_cancel_left _ (by omega)]
theorem SpoilsAt.ats {w : World} {v : Value} {l : List Spoil} (h : SpoilsAt w v l) {i : Nat} (hi : i < l.length) :
    ∃ b o, iaF 3 v (.int .i64 i) = some (.pointer (some ⟨b, o, none⟩)) ∧ ∀ {w'}, Grow w w' → w'.cell? ⟨b, o, none⟩ = some (.int .i64 l[i].sector) ∧ w'.cell? ⟨b, o + 1, none⟩ = some (.int .i64 l[i].at_) ∧ w'.cell? ⟨b, o + 2, none⟩ = some (.int .u8 (l[i].byte.toNat : Int)) := by
  obtain ⟨b, o, h5, h6, _⟩ := Has.idxk h (i := i) (by rw [spoils_length]; omega)
  obtain ⟨h7, h8, h9⟩ := spoils_get l i hi
  obtain ⟨x, hx, hxc⟩ := h6 0 (by omega)
  obtain ⟨y, hy, hyc⟩ := h6 1 (by omega)
  obtain ⟨z, hz, hzc⟩ := h6 2 (by omega)
  rw [show i * 3 + 0 = 3 * i from by omega, h7] at hx
  rw [show i * 3 + 1 = 3 * i + 1 from by omega, h8] at hy
  rw [show i * 3 + 2 = 3 * i + 2 from by omega, h9] at hz
  cases hx; cases hy; cases hz
  exact ⟨b, o, h5, fun hg => ⟨hg.gcell hxc, hg.gcell hyc, hg.gcell hzc⟩⟩
abbrev K7 : Nat → Prop := fun c => c = 1 ∨ c = 2 ∨ c = 5 ∨ c = 6 ∨ c = 7
set_option maxHeartbeats 8000000 in
theorem walBroken_walk {w : World} {k : Nat} {lv sv : Value} {l : List Deed3} {s : List Spoil} (hk : k < 256) (hv : DeedsAt w lv l) (hs : SpoilsAt w sv s) (hsb : ∀ x ∈ s, -9223372036854775808 ≤ x.sector ∧ x.sector ≤ 9223372036854775807 ∧ -9223372036854775808 ≤ x.at_ ∧ x.at_ ≤ 9223372036854775807) :
    Calls Tryz.prog 3 #[.int .u8 (k : Int), lv, sv] w (Ret fun v w' => v = .bool true ∧ Grow w w') := by
  apply enter3
  apply R_in
  simp (maxSteps := 1000000) (disch := omega) only [↓sy1, sy2, sy3, readOK, sy5, sy6, Nat.reduceEqDiff, ↓reduceIte, sy7, sy8, sy9, sya, oneOf, syb, syc, Nat.reduceAdd, Nat.reduceMul, syd, sye, syf, syg, syh, reduceCtorEq, F3, show (k : Int).tmod 9 = ((k % 9 : Nat) : Int) from rfl]
  rw [show ((k % 9 : Nat) : Int) + 1 = ((k % 9 + 1 : Nat) : Int) from rfl]
  generalize hsz : k % 9 + 1 = n
  have hn : 1 ≤ n ∧ n ≤ 9 := by omega
  rw [show (n : Int) + 10 = ((n + 10 : Nat) : Int) from rfl]
  refine call0 (lopen_spec (G := G00) (n := n + 10) (size := n) 1 2 (by omega) (by omega) (by omega) hn.1 (by omega)) ?_
  rintro _ w1 ⟨q, r, G1, rfl, hq1, hl1, hm1, hx1⟩
  simp (maxSteps := 1000000) (disch := omega) only [↓sy1, sy2, sy3, readOK, sy5, sy6, Nat.reduceEqDiff, ↓reduceIte, sy7, sy8, sy9, sya, oneOf, syb, syc, Nat.reduceAdd, Nat.reduceMul, syd, sye, syf, syg, syh, reduceCtorEq]
  refine call0 (live3_spec _) ?_
  rintro _ w2 ⟨rfl, hg2⟩
  have hx2 : Ext K7 G00 w G1 w2 := (hx1.mono (fun _ h => h.elim)).trans (.grow hg2)
  simp (maxSteps := 1000000) (disch := omega) only [↓sy1, sy2, sy3, readOK, sy5, sy6, Nat.reduceEqDiff, ↓reduceIte, sy7, sy8, sy9, sya, oneOf, syb, syc, Nat.reduceAdd, Nat.reduceMul, syd, sye, syf, syg, syh, reduceCtorEq, Bool.not_true]
  refine loop_rule (fun e w' => ∃ (i : Nat) (G' : Gh), i ≤ min l.length 4 ∧ e 11 = .int .i64 i ∧ e 7 = .int .i64 n ∧ e 8 = .pointer (some ⟨q, 0, none⟩) ∧ e 9 = .pointer (some ⟨r, 0, none⟩) ∧ e 1 = lv ∧ e 2 = sv ∧
      LogAt G' 1 w' q n 0 (commits n (Dsk.zero (n + 10)) (l.take i)) ∧ RLogAt G' 2 w' r n 0 (commits n (Dsk.zero (n + 10)) (l.take i)) ∧ Ext K7 G00 w G' w') (fun e _ => min l.length 4 - (intOf (e 11)).toNat)
    ⟨0, G1, by omega, by simp [upd, updO, ev], by simp [upd, updO, ev], by simp [upd, updO, ev], by simp [upd, updO, ev], by simp [upd, updO, ev], by simp [upd, updO, ev], hl1.grow hg2, hm1.grow hg2, hx2⟩ ?_
  rintro e w3 ⟨i, G3, hi, e11, e7, e8, e9, e1, e2, hl3, hm3, hx3⟩
  have hg3 := hx3.toGrow (by omega)
  have hv3 := hv.grow hg3
  have hops := commits_below (D := Dsk.zero (n + 10)) (size := n) (l := l) (i := i) (k := 4) (by omega) rfl
  have hfirst : (commits n (Dsk.zero (n + 10)) (l.take i)).first.length = n + 10 := by rw [commits_first, zero_len]
  by_cases hlt : i < min l.length 4
  · have hil : i < l.length := by omega
    have hstep := commits_take (size := n) (D := Dsk.zero (n + 10)) hil
    generalize commits n (Dsk.zero (n + 10)) (l.take i) = D at hl3 hm3 hops hfirst hstep
    obtain ⟨a, u, ha, hld, hx⟩ := hv3.at hil
    simp (maxSteps := 1000000) (disch := omega) only [↓sy1, sy2, sy3, readOK, sy5, sy6, Nat.reduceEqDiff, ↓reduceIte, sy7, sy8, sy9, sya, oneOf, syb, syc, Nat.reduceAdd, Nat.reduceMul, syd, sye, syf, syg, syh, reduceCtorEq, F3_L0, e11, e7, e8, e9, e1, e2, hv3.len, Int.ofNat_lt, hil, show ((i : Int) < 4) from by omega, decide_true, ha, hld]
    refine call0 (dpages_spec hx) ?_
    rintro pv w4 ⟨hpv, hg4⟩
    have hx4 : Ext0 G3 w3 (G3.new w3.heap.size) w4 := .newB hg4
    obtain ⟨xs, hps⟩ := hpv.held (G := G3.new w3.heap.size) (κ := 1) (fun b hb => by rw [Gh.new_own hb]; omega)
    have hm4 := hm3.ext hx4 id id
    simp (maxSteps := 1000000) (disch := omega) only [↓sy1, sy2, sy3, readOK, sy5, sy6, Nat.reduceEqDiff, ↓reduceIte, sy7, sy8, sy9, sya, oneOf, syb, syc, Nat.reduceAdd, Nat.reduceMul, syd, sye, syf, syg, syh, reduceCtorEq, e11, e7, e8, e9, e1, e2]
    refine call0 (commit_spec (hl3.ext hx4 id id) hps (pgs_most _) (by omega)) ?_
    rintro _ w5 ⟨rfl, G5, hl5, hx5⟩
    have hm5 := hm4.ext hx5 (by omega) (by omega)
    have hx05 : Ext K7 G00 w G5 w5 := (hx3.trans (hx4.mono (fun _ h => h.elim))).trans (hx5.mono (by omega))
    obtain ⟨a', u', ha', hld', hx'⟩ := (hv.grow (hx05.toGrow (by omega))).at hil
    simp (maxSteps := 1000000) (disch := omega) only [↓sy1, sy2, sy3, readOK, sy5, sy6, Nat.reduceEqDiff, ↓reduceIte, sy7, sy8, sy9, sya, oneOf, syb, syc, Nat.reduceAdd, Nat.reduceMul, syd, sye, syf, syg, syh, reduceCtorEq, e11, e7, e8, e9, e1, e2, ha', hld']
    refine call0 (dpages_spec hx') ?_
    rintro pw w6 ⟨hpw, hg6⟩
    have hx6 : Ext0 G5 w5 (G5.new w5.heap.size) w6 := .newB hg6
    obtain ⟨ys, hqs⟩ := hpw.held (G := G5.new w5.heap.size) (κ := 2) (fun b hb => by rw [Gh.new_own hb]; omega)
    simp (maxSteps := 1000000) (disch := omega) only [↓sy1, sy2, sy3, readOK, sy5, sy6, Nat.reduceEqDiff, ↓reduceIte, sy7, sy8, sy9, sya, oneOf, syb, syc, Nat.reduceAdd, Nat.reduceMul, syd, sye, syf, syg, syh, reduceCtorEq, e11, e7, e8, e9, e1, e2]
    refine call0 (rcommit_spec (hm5.ext hx6 id id) hqs (pgs_most _) (by omega)) ?_
    rintro _ w7 ⟨rfl, G7, hm7, hx7⟩
    simp (maxSteps := 1000000) (disch := omega) only [↓sy1, sy2, sy3, readOK, sy5, sy6, Nat.reduceEqDiff, ↓reduceIte, sy7, sy8, sy9, sya, oneOf, syb, syc, Nat.reduceAdd, Nat.reduceMul, syd, sye, syf, syg, syh, reduceCtorEq, e11, e7, e8, e9, e1, e2]
    refine R_out ⟨⟨i + 1, G7, by omega, rfl, by rw [hstep]; exact (hl5.ext hx6 id id).ext hx7 (by omega) (by omega), by rw [hstep]; exact hm7, (hx05.trans (hx6.mono (fun _ h => h.elim))).trans (hx7.mono (by omega))⟩, ?_⟩
    simp only [intOf]; omega
  · generalize commits n (Dsk.zero (n + 10)) (l.take i) = D at hl3 hm3 hops hfirst
    by_cases h1 : i < l.length
    all_goals first
      | (simp (maxSteps := 1000000) (disch := omega) only [↓sy1, sy2, sy3, readOK, sy5, sy6, Nat.reduceEqDiff, ↓reduceIte, sy7, sy8, sy9, sya, oneOf, syb, syc, Nat.reduceAdd, Nat.reduceMul, syd, sye, syf, syg, syh, reduceCtorEq, F3_L0, e11, e7, e8, e9, e1, e2, hv3.len, Int.ofNat_lt, h1, show ¬ ((i : Int) < 4) from by omega, decide_true, decide_false])
      | (simp (maxSteps := 1000000) (disch := omega) only [↓sy1, sy2, sy3, readOK, sy5, sy6, Nat.reduceEqDiff, ↓reduceIte, sy7, sy8, sy9, sya, oneOf, syb, syc, Nat.reduceAdd, Nat.reduceMul, syd, sye, syf, syg, syh, reduceCtorEq, F3_L0, e11, e7, e8, e9, e1, e2, hv3.len, Int.ofNat_lt, h1, decide_true, decide_false])
    all_goals
      refine call0 (rldisk_spec 3 hm3) ?_
      rintro _ w4 ⟨p4, G4, rfl, _, hd4, hx4⟩
      simp (maxSteps := 1000000) (disch := omega) only [↓sy1, sy2, sy3, readOK, sy5, sy6, Nat.reduceEqDiff, ↓reduceIte, sy7, sy8, sy9, sya, oneOf, syb, syc, Nat.reduceAdd, Nat.reduceMul, syd, sye, syf, syg, syh, reduceCtorEq, e7, e2]
      refine call0 (rimage_spec hd4) ?_
      rintro iv w5 ⟨hiv, hg5⟩
      have hx5 : Ext0 G4 w4 (G4.upto w4.heap.size (fun _ => 7) (fun _ => 0)) w5 := .upto hg5 _ _
      have ho5 : ∀ b, w4.heap.size ≤ b → (G4.upto w4.heap.size (fun _ => 7) (fun _ => 0)).own b = 7 ∧ (G4.upto w4.heap.size (fun _ => 7) (fun _ => 0)).fix b = 0 := fun b hb => by simp [Gh.upto, Nat.not_lt.2 hb]
      generalize G4.upto w4.heap.size (fun _ => 7) (fun _ => 0) = G5 at hx5 ho5
      have hI5 : FreshI w4.heap.size w5 iv (n + 10) := ⟨_, hiv, by rw [D.image_length]; exact hfirst, hd4.ok.image⟩
      have hx05 : Ext K7 G00 w G5 w5 := hx3.trans ((hx4.trans hx5).mono (fun _ h => h.elim))
      simp (maxSteps := 1000000) (disch := omega) only [↓sy1, sy2, sy3, readOK, sy5, sy6, Nat.reduceEqDiff, ↓reduceIte, sy7, sy8, sy9, sya, oneOf, syb, syc, Nat.reduceAdd, Nat.reduceMul, syd, sye, syf, syg, syh, reduceCtorEq, e7, e2]
      refine loop_rule (fun e w' => ∃ j : Nat, j ≤ min s.length 12 ∧ e 13 = .int .i64 j ∧ e 12 = iv ∧ e 7 = .int .i64 n ∧ e 2 = sv ∧ FreshI w4.heap.size w' iv (n + 10) ∧ Ext (fun c => c = 7) G5 w5 G5 w') (fun e _ => min s.length 12 - (intOf (e 13)).toNat)
        ⟨0, by omega, by simp [upd, updO, ev], by simp [upd, updO, ev], by simp [upd, updO, ev, e7], by simp [upd, updO, ev, e2], hI5, .refl _ _ _⟩ ?_
      rintro e w6 ⟨j, hj, e13, e12, e7, e2, hI6, hx6⟩
      have hx06 : Ext K7 G00 w G5 w6 := hx05.trans (hx6.mono (by omega))
      have hg06 := hx06.toGrow (by omega)
      have hslen := hs.len
      by_cases hjl : j < min s.length 12
      · have hjs : j < s.length := by omega
        obtain ⟨b, o, hia, hat⟩ := hs.ats hjs
        obtain ⟨c0, c1, c2⟩ := hat hg06
        obtain ⟨b1, b2, b3, b4⟩ := hsb _ (List.getElem_mem hjs)
        have hnext : ∀ {w' : World}, FreshI w4.heap.size w' iv (n + 10) → Ext (fun c => c = 7) G5 w5 G5 w' → R ((∃ j_1 : Nat, j_1 ≤ min s.length 12 ∧ (Value.int .i64 ((j : Int) + 1)) = .int .i64 j_1 ∧ FreshI w4.heap.size w' iv (n + 10) ∧ Ext (fun c => c = 7) G5 w5 G5 w') ∧
            min s.length 12 - (intOf (Value.int .i64 ((j : Int) + 1))).toNat < min s.length 12 - (intOf (Value.int .i64 (j : Int))).toNat) := fun hI hx =>
          R_out ⟨⟨j + 1, by omega, rfl, hI, hx⟩, by simp only [intOf]; omega⟩
        by_cases q0 : ¬ (0 ≤ s[j].sector)
        · simp (maxSteps := 1000000) (disch := omega) only [↓sy1, sy2, sy3, readOK, sy5, sy6, Nat.reduceEqDiff, ↓reduceIte, sy7, sy8, sy9, sya, oneOf, syb, syc, Nat.reduceAdd, Nat.reduceMul, syd, sye, syf, syg, syh, reduceCtorEq, F3_L1, e13, e12, e7, e2, hslen, Int.ofNat_lt, hjs, show ((j : Int) < 12) from by omega, decide_true, decide_false, hia, c0, c1, c2, q0, hI6.len]
          exact hnext hI6 hx6
        have q0 := Decidable.of_not_not q0
        by_cases q1 : ¬ (s[j].sector < ((n + 10 : Nat) : Int))
        · simp (maxSteps := 1000000) (disch := omega) only [↓sy1, sy2, sy3, readOK, sy5, sy6, Nat.reduceEqDiff, ↓reduceIte, sy7, sy8, sy9, sya, oneOf, syb, syc, Nat.reduceAdd, Nat.reduceMul, syd, sye, syf, syg, syh, reduceCtorEq, F3_L1, e13, e12, e7, e2, hslen, Int.ofNat_lt, hjs, show ((j : Int) < 12) from by omega, decide_true, decide_false, hia, c0, c1, c2, q0, q1, hI6.len]
          exact hnext hI6 hx6
        have q1 := Decidable.of_not_not q1
        by_cases q2 : ¬ (0 ≤ s[j].at_)
        · simp (maxSteps := 1000000) (disch := omega) only [↓sy1, sy2, sy3, readOK, sy5, sy6, Nat.reduceEqDiff, ↓reduceIte, sy7, sy8, sy9, sya, oneOf, syb, syc, Nat.reduceAdd, Nat.reduceMul, syd, sye, syf, syg, syh, reduceCtorEq, F3_L1, e13, e12, e7, e2, hslen, Int.ofNat_lt, hjs, show ((j : Int) < 12) from by omega, decide_true, decide_false, hia, c0, c1, c2, q0, q1, q2, hI6.len]
          exact hnext hI6 hx6
        have q2 := Decidable.of_not_not q2
        by_cases q3 : ¬ (s[j].at_ < 512)
        · simp (maxSteps := 1000000) (disch := omega) only [↓sy1, sy2, sy3, readOK, sy5, sy6, Nat.reduceEqDiff, ↓reduceIte, sy7, sy8, sy9, sya, oneOf, syb, syc, Nat.reduceAdd, Nat.reduceMul, syd, sye, syf, syg, syh, reduceCtorEq, F3_L1, e13, e12, e7, e2, hslen, Int.ofNat_lt, hjs, show ((j : Int) < 12) from by omega, decide_true, decide_false, hia, c0, c1, c2, q0, q1, q2, q3, hI6.len]
          exact hnext hI6 hx6
        have q3 := Decidable.of_not_not q3
        simp (maxSteps := 1000000) (disch := omega) only [↓sy1, sy2, sy3, readOK, sy5, sy6, Nat.reduceEqDiff, ↓reduceIte, sy7, sy8, sy9, sya, oneOf, syb, syc, Nat.reduceAdd, Nat.reduceMul, syd, sye, syf, syg, syh, reduceCtorEq, F3_L1, e13, e12, e7, e2, hslen, Int.ofNat_lt, hjs, show ((j : Int) < 12) from by omega, decide_true, decide_false, hia, c0, c1, c2, q0, q1, q2, q3, hI6.len]
        refine draw3_0 (fun _ => False) ?_
        have hgd : Grow w6 w6.drew := (Keep.refl _ _).drew
        have hI7 : FreshI w4.heap.size w6.drew iv (n + 10) := by
          obtain ⟨ls, h1, h2, h3⟩ := hI6
          exact ⟨ls, h1.grow hgd, h2, h3⟩
        generalize w6.drew = w7 at hgd hI7 ⊢
        obtain ⟨d0, d1, d2⟩ := hat (hg06.trans hgd)
        obtain ⟨a1, u1, a2, w8, ha1, hc1, ha2, hst, hI8, hk8, hB8⟩ := hI7.store (i := s[j].sector.toNat) (j := s[j].at_.toNat) (c := s[j].byte) (by omega) (by omega)
        rw [show ((s[j].sector.toNat : Nat) : Int) = s[j].sector from by omega] at ha1
        rw [show ((s[j].at_.toNat : Nat) : Int) = s[j].at_ from by omega] at ha2
        simp (maxSteps := 1000000) (disch := omega) only [↓sy1, sy2, sy3, readOK, sy5, sy6, Nat.reduceEqDiff, ↓reduceIte, sy7, sy8, sy9, sya, oneOf, syb, syc, Nat.reduceAdd, Nat.reduceMul, syd, sye, syf, syg, syh, reduceCtorEq, PL3_0, e13, e12, e7, e2, hia, d0, d1, d2, ha1, hc1, ha2, hst]
        have hx78 : Ext (fun c => c = 7) G5 w7 G5 w8 := .on0 hk8 (ho5 _ hB8).1 (ho5 _ hB8).2
        exact hnext hI8 ((hx6.trans (.grow hgd)).trans hx78)
      · have hend : ∀ {P : Prop}, P → P := fun h => h
        obtain ⟨ls, hfr, hll, h512⟩ := hI6
        have hsm : Small ls := fun x hx => by rw [h512 x hx]; omega
        by_cases h2 : j < s.length
        all_goals first
          | (simp (maxSteps := 1000000) (disch := omega) only [↓sy1, sy2, sy3, readOK, sy5, sy6, Nat.reduceEqDiff, ↓reduceIte, sy7, sy8, sy9, sya, oneOf, syb, syc, Nat.reduceAdd, Nat.reduceMul, syd, sye, syf, syg, syh, reduceCtorEq, F3_L1, e13, e12, e7, e2, hslen, Int.ofNat_lt, h2, show ¬ ((j : Int) < 12) from by omega, decide_true, decide_false])
          | (simp (maxSteps := 1000000) (disch := omega) only [↓sy1, sy2, sy3, readOK, sy5, sy6, Nat.reduceEqDiff, ↓reduceIte, sy7, sy8, sy9, sya, oneOf, syb, syc, Nat.reduceAdd, Nat.reduceMul, syd, sye, syf, syg, syh, reduceCtorEq, F3_L1, e13, e12, e7, e2, hslen, Int.ofNat_lt, h2, decide_true, decide_false])
        all_goals
          refine call0 (load_spec (G := G5) 3 hfr.has (by omega) hsm) ?_
          rintro v7 w7 ⟨_, _, hld⟩
          obtain ⟨p7, G7, rfl, _, hd7, hx7⟩ := hld (by omega) (by omega) h512
          simp (maxSteps := 1000000) (disch := omega) only [↓sy1, sy2, sy3, readOK, sy5, sy6, Nat.reduceEqDiff, ↓reduceIte, sy7, sy8, sy9, sya, oneOf, syb, syc, Nat.reduceAdd, Nat.reduceMul, syd, sye, syf, syg, syh, reduceCtorEq, e12, e7]
          refine call0 (rload_spec (G := G7) 4 (hfr.has.grow hx7.growG) (by omega) hsm) ?_
          rintro v8 w8 ⟨_, _, hld⟩
          obtain ⟨p8, G8, rfl, _, hd8, hx8⟩ := hld (by omega) (by omega) h512
          have hd78 := hd7.ext hx8 id
          have hfl : (⟨ls, []⟩ : Dsk).first.length = n + 10 := hll
          have hopl : (⟨ls, []⟩ : Dsk).ops.length = 0 := rfl
          generalize (⟨ls, []⟩ : Dsk) = E at hd7 hd8 hd78 hfl hopl
          have hx08 : Ext K7 G00 w G8 w8 := hx06.trans ((hx7.trans hx8).mono (fun _ h => h.elim))
          simp (maxSteps := 1000000) (disch := omega) only [↓sy1, sy2, sy3, readOK, sy5, sy6, Nat.reduceEqDiff, ↓reduceIte, sy7, sy8, sy9, sya, oneOf, syb, syc, Nat.reduceAdd, Nat.reduceMul, syd, sye, syf, syg, syh, reduceCtorEq, e12, e7]
          refine call0 (openg_spec (size := n) 5 (by omega) hd78 hn.1 (by omega) (by omega)) ?_
          rintro v9 w9 hor9
          cases hop : opened n E with
          | none =>
            rw [hop] at hor9
            obtain ⟨rfl, hg9⟩ := hor9
            simp (maxSteps := 1000000) (disch := omega) only [↓sy1, sy2, sy3, readOK, sy5, sy6, Nat.reduceEqDiff, ↓reduceIte, sy7, sy8, sy9, sya, oneOf, syb, syc, Nat.reduceAdd, Nat.reduceMul, syd, sye, syf, syg, syh, reduceCtorEq, e7]
            refine call0 (ropeng_spec (size := n) 6 (by omega) (hd8.grow hg9) hn.1 (by omega) (by omega)) ?_
            rintro v10 w10 hor10
            rw [hop] at hor10
            obtain ⟨rfl, hg10⟩ := hor10
            simp (maxSteps := 1000000) (disch := omega) only [↓sy1, sy2, sy3, readOK, sy5, sy6, Nat.reduceEqDiff, ↓reduceIte, sy7, sy8, sy9, sya, oneOf, syb, syc, Nat.reduceAdd, Nat.reduceMul, syd, sye, syf, syg, syh, reduceCtorEq, decide_true, beq_self_eq_true, Bool.not_true]
            refine call0 (ops_spec ((hd78.grow hg9).grow hg10)) ?_
            rintro _ w11 ⟨rfl, rfl⟩
            rw [hopl]
            simp (maxSteps := 1000000) (disch := omega) only [↓sy1, sy2, sy3, readOK, sy5, sy6, Nat.reduceEqDiff, ↓reduceIte, sy7, sy8, sy9, sya, oneOf, syb, syc, Nat.reduceAdd, Nat.reduceMul, syd, sye, syf, syg, syh, reduceCtorEq, show (((0 : Nat) : Int) = 0) = True from by simp, decide_true, Bool.not_true]
            refine call0 came_nil ?_
            rintro _ w11 ⟨rfl, rfl⟩
            simp (maxSteps := 1000000) (disch := omega) only [↓sy1, sy2, sy3, readOK, sy5, sy6, Nat.reduceEqDiff, ↓reduceIte, sy7, sy8, sy9, sya, oneOf, syb, syc, Nat.reduceAdd, Nat.reduceMul, syd, sye, syf, syg, syh, reduceCtorEq]
            refine call0 rcame_nil ?_
            rintro _ w11 ⟨rfl, rfl⟩
            simp (maxSteps := 1000000) (disch := omega) only [↓sy1, sy2, sy3, readOK, sy5, sy6, Nat.reduceEqDiff, ↓reduceIte, sy7, sy8, sy9, sya, oneOf, syb, syc, Nat.reduceAdd, Nat.reduceMul, syd, sye, syf, syg, syh, reduceCtorEq, decide_true]
            exact R_out ((hx08.toGrow (by omega)).trans (hg9.trans hg10))
          | some ec =>
            obtain ⟨Y, came⟩ := ec
            rw [hop] at hor9
            obtain ⟨q9, G9, rfl, _, hl9, hx9⟩ := hor9
            simp (maxSteps := 1000000) (disch := omega) only [↓sy1, sy2, sy3, readOK, sy5, sy6, Nat.reduceEqDiff, ↓reduceIte, sy7, sy8, sy9, sya, oneOf, syb, syc, Nat.reduceAdd, Nat.reduceMul, syd, sye, syf, syg, syh, reduceCtorEq, e7]
            refine call0 (ropeng_spec (size := n) 6 (by omega) (hd8.ext hx9 (by omega)) hn.1 (by omega) (by omega)) ?_
            rintro v10 w10 hor10
            rw [hop] at hor10
            obtain ⟨q10, G10, rfl, _, hm10, hx10⟩ := hor10
            have hl10 := hl9.ext hx10 (by omega) (by omega)
            have hx010 : Ext K7 G00 w G10 w10 := (hx08.trans (hx9.mono (by omega))).trans (hx10.mono (by omega))
            simp (maxSteps := 1000000) (disch := omega) only [↓sy1, sy2, sy3, readOK, sy5, sy6, Nat.reduceEqDiff, ↓reduceIte, sy7, sy8, sy9, sya, oneOf, syb, syc, Nat.reduceAdd, Nat.reduceMul, syd, sye, syf, syg, syh, reduceCtorEq, decide_true, beq_self_eq_true, Bool.not_true]
            refine call0 (ops_spec ((hd78.ext hx9 (by omega)).ext hx10 (by omega))) ?_
            rintro _ w11 ⟨rfl, rfl⟩
            rw [hopl]
            simp (maxSteps := 1000000) (disch := omega) only [↓sy1, sy2, sy3, readOK, sy5, sy6, Nat.reduceEqDiff, ↓reduceIte, sy7, sy8, sy9, sya, oneOf, syb, syc, Nat.reduceAdd, Nat.reduceMul, syd, sye, syf, syg, syh, reduceCtorEq, show (((0 : Nat) : Int) = 0) = True from by simp, decide_true, Bool.not_true]
            refine call0 (came_spec hl10) ?_
            rintro _ w11 ⟨rfl, rfl⟩
            simp (maxSteps := 1000000) (disch := omega) only [↓sy1, sy2, sy3, readOK, sy5, sy6, Nat.reduceEqDiff, ↓reduceIte, sy7, sy8, sy9, sya, oneOf, syb, syc, Nat.reduceAdd, Nat.reduceMul, syd, sye, syf, syg, syh, reduceCtorEq]
            refine call0 (rcame_spec hm10) ?_
            rintro _ w11 ⟨rfl, rfl⟩
            simp (maxSteps := 1000000) (disch := omega) only [↓sy1, sy2, sy3, readOK, sy5, sy6, Nat.reduceEqDiff, ↓reduceIte, sy7, sy8, sy9, sya, oneOf, syb, syc, Nat.reduceAdd, Nat.reduceMul, syd, sye, syf, syg, syh, reduceCtorEq, decide_true]
            refine call0 (ldisk_spec 8 hl10) ?_
            rintro _ w12 ⟨p12, G12, rfl, _, hd12, hx12⟩
            simp (maxSteps := 1000000) (disch := omega) only [↓sy1, sy2, sy3, readOK, sy5, sy6, Nat.reduceEqDiff, ↓reduceIte, sy7, sy8, sy9, sya, oneOf, syb, syc, Nat.reduceAdd, Nat.reduceMul, syd, sye, syf, syg, syh, reduceCtorEq]
            refine call0 (rldisk_spec 9 (hm10.ext hx12 id id)) ?_
            rintro _ w13 ⟨p13, G13, rfl, _, hd13, hx13⟩
            simp (maxSteps := 1000000) (disch := omega) only [↓sy1, sy2, sy3, readOK, sy5, sy6, Nat.reduceEqDiff, ↓reduceIte, sy7, sy8, sy9, sya, oneOf, syb, syc, Nat.reduceAdd, Nat.reduceMul, syd, sye, syf, syg, syh, reduceCtorEq]
            refine call0 (same03_spec (hd12.ext hx13 id) hd13) ?_
            rintro _ w14 ⟨rfl, hg14⟩
            simp (maxSteps := 1000000) (disch := omega) only [↓sy1, sy2, sy3, readOK, sy5, sy6, Nat.reduceEqDiff, ↓reduceIte, sy7, sy8, sy9, sya, oneOf, syb, syc, Nat.reduceAdd, Nat.reduceMul, syd, sye, syf, syg, syh, reduceCtorEq]
            exact R_out ((hx010.toGrow (by omega)).trans (hx12.growG.trans (hx13.growG.trans hg14)))
end Go.Proofs.YtneehlkofcdhoaaGreat

/- Arguments opened: rows of numbers, of bytes. What is only read reads as it did. -/
namespace Go.Proofs.YtneehlkofcdhoaaGreat
open Go
set_option linter.unusedSimpArgs false
open Go.RowKit Go.ChangeShapes Go.WideShapes Go.Deep Go.Joins
theorem okSlice {P : Program} {w : World} {r : Reach} {base : Nat} {t e : TypeId} {v : Value} (ht : P.underlying t = some (.slice e)) (h : Value.okWide P w r base t v) :
    v = .slice none 0 0 ∨ ∃ b o len cap, v = .slice (some ⟨b, o, none⟩) len cap := by
  simp only [Value.okWide, ht, Cell.okWide] at h
  cases v with
  | slice a len cap =>
    cases a with
    | none =>
      simp only [Cell.ok, ht] at h
      cases len <;> cases cap <;> simp at h
      exact .inl rfl
    | some a =>
      simp only [Cell.ok, ht] at h
      obtain ⟨_, _, _, hs, _⟩ := h
      obtain ⟨b, o, s⟩ := a
      cases hs
      exact .inr ⟨b, o, len, cap, rfl⟩
  | _ => simp [Cell.ok, ht] at h
section
variable {H : Type} {enc : TypeId × Value → H} {w : World} {base : Nat} {spare : Nat → Bool} {held : Bool}
theorem cellsBool : Tryz.prog.cellsOf 4 = 1 := by kernel_rfl
theorem cellsInt : Tryz.prog.cellsOf 3 = 1 := by kernel_rfl
theorem cellsU8 : Tryz.prog.cellsOf 5 = 1 := by kernel_rfl
set_option maxRecDepth 100000 in
/-- A row of numbers. -/
theorem open_intsL {v : Value} {d : DataW H} {p : List MemPlace} {W : World} {b0 : Nat} (hv : Value.okWide Tryz.prog W .any b0 32 v) (h : DataW.Trod enc Tryz.prog W 0 (fun _ => true) true 32 v d p) :
    ∃ l : List Int, HasI W v l ∧ l.length ≤ 9223372036854775807 ∧ ∀ z ∈ l, -9223372036854775808 ≤ z ∧ z ≤ 9223372036854775807 := by
  obtain ⟨fuel, hf⟩ := h
  rcases okSlice Tryz.underlying32 hv with rfl | ⟨b, o, len, cap, rfl⟩
  · exact ⟨[], Has.nil 1 W, by simp, by simp⟩
  rcases open_ints Tryz.underlying32 Tryz.underlying3 cellsInt hf with ⟨hcs, _⟩ | ⟨a, len', cap', zs, hcs, _, hl, hm, hz, hx, hcell, hwz⟩
  · simp [Value.cells] at hcs
  simp only [Value.cells, List.cons.injEq, Value.slice.injEq, and_true, Option.some.injEq] at hcs
  obtain ⟨rfl, rfl, rfl⟩ := hcs
  simp only [if_true] at hz
  have hlen : (zs.take len).length = len := by rw [List.length_take]; omega
  refine ⟨zs.take len, .inl ⟨b, o, len, cap, rfl, by simp only [ints, List.length_map, hlen]; omega, hl, fun j u hj => ?_⟩, ?_, fun z hz' => ?_⟩
  · simp only [ints, List.getElem?_map, Option.map_eq_some_iff] at hj
    obtain ⟨z, hj, rfl⟩ := hj
    obtain ⟨hjl, hj⟩ := List.getElem?_eq_some_iff.1 hj
    rw [hlen] at hjl
    have := hcell j (by omega)
    rw [add_lit] at this
    rw [this, ← hj, List.getElem_take, List.getD_eq_getElem?_getD, List.getElem?_eq_getElem (by omega)]; rfl
  · rw [hlen]; have : maxLen = 9223372036854775807 := rfl; omega
  · have := bounds_i64 (hwz z (List.mem_of_mem_take hz')); omega
set_option maxRecDepth 100000 in
/-- A row of bytes. -/
theorem open_bytesL {v : Value} {d : DataW H} {p : List MemPlace} {W : World} {b0 : Nat} (hv : Value.okWide Tryz.prog W .any b0 43 v) (h : DataW.Trod enc Tryz.prog W 0 (fun _ => true) true 43 v d p) :
    ∃ l : List UInt8, HasB W v l := by
  obtain ⟨fuel, hf⟩ := h
  rcases okSlice Tryz.underlying43 hv with rfl | ⟨b, o, len, cap, rfl⟩
  · exact ⟨[], Has.nil 1 W⟩
  rcases open_ints Tryz.underlying43 Tryz.underlying5 cellsU8 hf with ⟨hcs, _⟩ | ⟨a, len', cap', zs, hcs, _, hl, hm, hz, hx, hcell, hwz⟩
  · simp [Value.cells] at hcs
  simp only [Value.cells, List.cons.injEq, Value.slice.injEq, and_true, Option.some.injEq] at hcs
  obtain ⟨rfl, rfl, rfl⟩ := hcs
  simp only [if_true] at hz
  have hlen : (zs.take len).length = len := by rw [List.length_take]; omega
  refine ⟨(zs.take len).map fun z => UInt8.ofNat z.toNat, .inl ⟨b, o, len, cap, rfl, by simp [bs]; omega, hl, fun j u hj => ?_⟩⟩
  simp only [bs, List.map_map, List.getElem?_map, Option.map_eq_some_iff, Function.comp] at hj
  obtain ⟨z, hj, rfl⟩ := hj
  obtain ⟨hjl, hj⟩ := List.getElem?_eq_some_iff.1 hj
  rw [hlen] at hjl
  have := hcell j (by omega)
  rw [add_lit] at this
  have hbz := bounds_u8 (hwz z (by rw [← hj, List.getElem_take]; exact List.getElem_mem _))
  rw [this, ← hj, List.getElem_take, List.getD_eq_getElem?_getD, List.getElem?_eq_getElem (by omega)]
  rw [List.getElem_take] at hj
  have hz' : ((UInt8.ofNat z.toNat).toNat : Int) = z := by rw [UInt8.toNat_ofNat']; omega
  rw [hj, hz']; rfl
theorem u8_nat {n : Int} (h : (Lit.int .u8 n).wf = true) : ∃ k : Nat, k < 256 ∧ n = (k : Int) := by
  have := bounds_u8 h
  exact ⟨n.toNat, by omega, by omega⟩
/-- What is only read reads as it did. -/
theorem argsStay {P : Program} {W W' : World} (hl : laidOutB P = true) (hb : Below W.heap.size W W') : ∀ {ts : List TypeId} {vs : List Value} {ds : List (DataW H)} {ps : List MemPlace}, (ts.all fun t => P.readableRec t && decide (t < P.types.size)) = true →
    DataW.TrodAll enc P W 0 (fun _ => true) true ts vs ds ps → (∀ x ∈ ps, x.block < W.heap.size) → DataW.TrodAll enc P W' 0 (fun b => decide (b < W.heap.size)) true ts vs ds ps
  | [], _, _, _, _, h, _ => by
    obtain ⟨rfl, rfl, rfl⟩ := trodAll_nil h
    exact trodAll_mk0
  | t :: ts, _, _, _, ht, h, hlt => by
    obtain ⟨v, vs, d, ds, p, q, rfl, rfl, rfl, h0, h1⟩ := trodAll_cons h
    simp only [List.all_cons, Bool.and_eq_true, decide_eq_true_eq] at ht
    exact trodAll_cons_mk (Below.trod hl ht.1.1 ht.1.2 h0 hb (fun x hx => hlt x (by simp [hx]))) (argsStay hl hb ht.2 h1 (fun x hx => hlt x (by simp [hx])))
end
end Go.Proofs.YtneehlkofcdhoaaGreat

/- Arguments opened: rows of groups of pages. -/
namespace Go.Proofs.YtneehlkofcdhoaaGreat
open Go
set_option linter.unusedSimpArgs false
open Go.RowKit Go.ChangeShapes Go.WideShapes Go.Deep Go.Joins
section
variable {H : Type} {enc : TypeId × Value → H} {w : World} {base : Nat} {spare : Nat → Bool} {held : Bool}
theorem spot_none {a : Addr} {v : Value} (h : w.cell? a = some v) : a.spot = none := by
  obtain ⟨b, o, s⟩ := a
  cases s with
  | none => rfl
  | some s =>
    simp only [World.cell?] at h
    split at h <;> simp at h
theorem open_intsX {c : Value} {fuel : Nat} {x : DataW H × List MemPlace} (h : DataW.trod enc Tryz.prog w base (fun _ => true) held fuel 32 [c] = some x) : ∃ l : List Int, HasX w c l := by
  rcases open_ints Tryz.underlying32 Tryz.underlying3 cellsInt h with ⟨hcs, _⟩ | ⟨a, len, cap, zs, hcs, _, hl, hm, hz, hx, hcell, hwz⟩
  · cases hcs; exact ⟨[], .inl (Has.nil 1 w)⟩
  · cases hcs
    simp only [if_true] at hz
    by_cases h0 : cap = 0
    · subst h0
      obtain rfl : len = 0 := by omega
      exact ⟨[], .inr ⟨rfl, a, rfl⟩⟩
    · have hs := hcell 0 (by omega)
      rw [show a.add 0 = a from if_pos rfl] at hs
      have hsp := spot_none hs
      obtain ⟨b, o, s⟩ := a
      cases hsp
      have hlen : (zs.take len).length = len := by rw [List.length_take]; omega
      refine ⟨zs.take len, .inl (.inl ⟨b, o, len, cap, rfl, by simp only [ints, List.length_map, hlen]; omega, hl, fun j u hj => ?_⟩)⟩
      simp only [ints, List.getElem?_map, Option.map_eq_some_iff] at hj
      obtain ⟨z, hj, rfl⟩ := hj
      obtain ⟨hjl, hj⟩ := List.getElem?_eq_some_iff.1 hj
      rw [hlen] at hjl
      have := hcell j (by omega)
      rw [add_lit] at this
      rw [this, ← hj, List.getElem_take, List.getD_eq_getElem?_getD, List.getElem?_eq_getElem (by omega)]; rfl
theorem cellsDeed3 : Tryz.prog.cellsOf 34 = 3 := by kernel_rfl
theorem cellsInts : Tryz.prog.cellsOf 32 = 1 := by kernel_rfl
set_option maxRecDepth 100000 in
theorem deed3_fields {fuel : Nat} {cs : List Value} {x : DataW H × List MemPlace} (h : DataW.trod enc Tryz.prog w base (fun _ => true) held fuel 34 cs = some x) :
    ∃ (y : Deed3) (u : Value), cs = [.bool y.short, u, .int .u8 (y.byte.toNat : Int)] ∧ HasX w u y.pages := by
  obtain ⟨y0, y1, y2, n, _, hl, h0, h1, h2⟩ := trod_struct3 Tryz.underlying34 h
  rw [cellsDeed3] at hl
  match cs, hl with
  | [c0, c1, c2], _ =>
    simp only [cellsBool, cellsInts, cellsU8, List.drop_zero, List.drop_succ_cons, List.take_succ_cons, List.take_zero] at h0 h1 h2
    obtain ⟨a0, e0, _⟩ := DataW.trod_bool Tryz.underlying4 h0
    obtain ⟨l, hl⟩ := open_intsX h1
    obtain ⟨a2, e2, _, wf⟩ := DataW.trod_int Tryz.underlying5 h2
    cases e0; cases e2
    have hb := bounds_u8 wf
    refine ⟨⟨a0, l, UInt8.ofNat a2.toNat⟩, c1, ?_, hl⟩
    have : ((UInt8.ofNat a2.toNat).toNat : Int) = a2 := by
      rw [UInt8.toNat_ofNat']; omega
    simp only [this]
set_option maxRecDepth 100000 in
theorem open_deeds3 {v : Value} {d : DataW H} {p : List MemPlace} {W : World} {b0 : Nat} (hv : Value.okWide Tryz.prog W .any b0 22 v) (h : DataW.Trod enc Tryz.prog W 0 (fun _ => true) true 22 v d p) :
    ∃ l : List Deed3, DeedsAt W v l ∧ l.length ≤ 9223372036854775807 := by
  have hC := cellsDeed3
  obtain ⟨fuel, hf⟩ := h
  rcases okSlice Tryz.underlying22 hv with rfl | ⟨b, o, len, cap, rfl⟩
  · exact ⟨[], ⟨[], Has.nil 3 W, rfl, fun i hi => by simp at hi⟩, by simp⟩
  rcases open_slice Tryz.underlying22 hf with ⟨hcs, _⟩ | ⟨a, len', cap', m, n, D, Pl, hcs, hb, hl, hm, hmm, hx, hi⟩
  · simp [Value.cells] at hcs
  simp only [Value.cells, List.cons.injEq, Value.slice.injEq, and_true, Option.some.injEq] at hcs
  obtain ⟨rfl, rfl, rfl⟩ := hcs
  simp only [if_true] at hmm
  have key : ∀ k, k ≤ len → ∃ (l : List Deed3) (xs : List Value), l.length = k ∧ xs.length = 3 * k ∧ (∀ j u, xs[j]? = some u → W.cell? ⟨b, o + j, none⟩ = some u) ∧
      ∀ i (h : i < l.length), ∃ u, xs[3 * i]? = some (.bool l[i].short) ∧ xs[3 * i + 1]? = some u ∧ xs[3 * i + 2]? = some (.int .u8 (l[i].byte.toNat : Int)) ∧ HasX W u l[i].pages := by
    intro k
    induction k with
    | zero => intro _; exact ⟨[], [], rfl, rfl, fun j u hj => by simp at hj, fun i hi => by simp at hi⟩
    | succ k ih =>
      intro hk
      obtain ⟨l, xs, hll, hxl, hlc, hld⟩ := ih (by omega)
      obtain ⟨cs', hc, ht'⟩ := hi k (by omega)
      obtain ⟨y, u, rfl, hu⟩ := deed3_fields ht'
      obtain ⟨_, _, hat⟩ := World.cells?_some hc
      rw [hC] at hat
      refine ⟨l ++ [y], xs ++ [.bool y.short, u, .int .u8 (y.byte.toNat : Int)], by simp [hll], by simp [hxl]; omega, fun j v hj => ?_, fun i hi => ?_⟩
      · by_cases hjl : j < xs.length
        · rw [List.getElem?_append_left hjl] at hj; exact hlc j v hj
        · rw [List.getElem?_append_right (by omega)] at hj
          have hj3 : j - xs.length < 3 := by
            have := (List.getElem?_eq_some_iff.1 hj).1
            simpa using this
          have := hat (j - xs.length) hj3
          rw [add_lit, add_lit, hj] at this
          rw [← this]
          congr 2; omega
      · by_cases hil : i < l.length
        · obtain ⟨v, h1, h2, h3, h4⟩ := hld i hil
          refine ⟨v, ?_, ?_, ?_, ?_⟩
          · rw [List.getElem?_append_left (by omega), List.getElem_append_left hil]; exact h1
          · rw [List.getElem?_append_left (by omega)]; exact h2
          · rw [List.getElem?_append_left (by omega), List.getElem_append_left hil]; exact h3
          · rw [List.getElem_append_left hil]; exact h4
        · have hie : i = k := by simp at hi; omega
          subst hie
          have hy : (l ++ [y])[i]'hi = y := by rw [List.getElem_append_right (by omega)]; simp [hll]
          rw [hy]
          refine ⟨u, ?_, ?_, ?_, hu⟩
          · rw [List.getElem?_append_right (by omega), show 3 * i - xs.length = 0 from by omega]; rfl
          · rw [List.getElem?_append_right (by omega), show 3 * i + 1 - xs.length = 1 from by omega]; rfl
          · rw [List.getElem?_append_right (by omega), show 3 * i + 2 - xs.length = 2 from by omega]; rfl
  obtain ⟨l, xs, hll, hxl, hlc, hld⟩ := key len (Nat.le_refl _)
  exact ⟨l, ⟨xs, .inl ⟨b, o, len, cap, rfl, by omega, hl, hlc⟩, by omega, hld⟩, by have : maxLen = 9223372036854775807 := rfl; omega⟩
end
end Go.Proofs.YtneehlkofcdhoaaGreat

/- Arguments opened: rows of bytes that are spoilt. -/
namespace Go.Proofs.YtneehlkofcdhoaaGreat
open Go
set_option linter.unusedSimpArgs false
open Go.RowKit Go.ChangeShapes Go.WideShapes Go.Deep Go.Joins
section
variable {H : Type} {enc : TypeId × Value → H} {w : World} {base : Nat} {spare : Nat → Bool} {held : Bool}
theorem cellsSpoil : Tryz.prog.cellsOf 42 = 3 := by kernel_rfl
def Spoil.fits (x : Spoil) : Prop := -9223372036854775808 ≤ x.sector ∧ x.sector ≤ 9223372036854775807 ∧ -9223372036854775808 ≤ x.at_ ∧ x.at_ ≤ 9223372036854775807
set_option maxRecDepth 100000 in
theorem spoil_fields {fuel : Nat} {cs : List Value} {x : DataW H × List MemPlace} (h : DataW.trod enc Tryz.prog w base spare held fuel 42 cs = some x) : ∃ y : Spoil, cs = y.cells ∧ y.fits := by
  obtain ⟨y0, y1, y2, n, _, hl, h0, h1, h2⟩ := trod_struct3 Tryz.underlying42 h
  rw [cellsSpoil] at hl
  match cs, hl with
  | [c0, c1, c2], _ =>
    simp only [cellsInt, cellsU8, List.drop_zero, List.drop_succ_cons, List.take_succ_cons, List.take_zero] at h0 h1 h2
    obtain ⟨a0, e0, _, w0⟩ := DataW.trod_int Tryz.underlying3 h0
    obtain ⟨a1, e1, _, w1⟩ := DataW.trod_int Tryz.underlying3 h1
    obtain ⟨a2, e2, _, wf⟩ := DataW.trod_int Tryz.underlying5 h2
    cases e0; cases e1; cases e2
    have hb := bounds_u8 wf
    have hb0 := bounds_i64 w0
    have hb1 := bounds_i64 w1
    refine ⟨⟨a0, a1, UInt8.ofNat a2.toNat⟩, ?_, hb0.1, hb0.2, hb1.1, hb1.2⟩
    have : ((UInt8.ofNat a2.toNat).toNat : Int) = a2 := by
      rw [UInt8.toNat_ofNat']; omega
    simp only [Spoil.cells, this]
set_option maxRecDepth 100000 in
theorem open_spoils {v : Value} {d : DataW H} {p : List MemPlace} {W : World} {b0 : Nat} (hv : Value.okWide Tryz.prog W .any b0 23 v) (h : DataW.Trod enc Tryz.prog W 0 (fun _ => true) true 23 v d p) :
    ∃ l : List Spoil, SpoilsAt W v l ∧ ∀ x ∈ l, x.fits := by
  have hC := cellsSpoil
  obtain ⟨fuel, hf⟩ := h
  rcases okSlice Tryz.underlying23 hv with rfl | ⟨b, o, len, cap, rfl⟩
  · exact ⟨[], Has.nil 3 W, by simp⟩
  rcases open_slice Tryz.underlying23 hf with ⟨hcs, _⟩ | ⟨a, len', cap', m, n, D, Pl, hcs, hb, hl, hm, hmm, hx, hi⟩
  · simp [Value.cells] at hcs
  simp only [Value.cells, List.cons.injEq, Value.slice.injEq, and_true, Option.some.injEq] at hcs
  obtain ⟨rfl, rfl, rfl⟩ := hcs
  simp only [if_true] at hmm
  have key : ∀ k, k ≤ len → ∃ l : List Spoil, l.length = k ∧ (∀ x ∈ l, x.fits) ∧ ∀ j u, (l.flatMap Spoil.cells)[j]? = some u → W.cell? ⟨b, o + j, none⟩ = some u := by
    intro k
    induction k with
    | zero => intro _; exact ⟨[], rfl, by simp, fun j u hj => by simp at hj⟩
    | succ k ih =>
      intro hk
      obtain ⟨l, hll, hlf, hlc⟩ := ih (by omega)
      obtain ⟨cs', hc, ht'⟩ := hi k (by omega)
      obtain ⟨x, rfl, hxf⟩ := spoil_fields ht'
      obtain ⟨_, _, hat⟩ := World.cells?_some hc
      rw [hC] at hat
      refine ⟨l ++ [x], by simp [hll], fun y hy => ?_, fun j u hj => ?_⟩
      · rcases List.mem_append.1 hy with hy | hy
        · exact hlf y hy
        · simp at hy; subst hy; exact hxf
      rw [List.flatMap_append, List.flatMap_cons, List.flatMap_nil, List.append_nil] at hj
      by_cases hjl : j < (l.flatMap Spoil.cells).length
      · rw [List.getElem?_append_left hjl] at hj; exact hlc j u hj
      · rw [List.getElem?_append_right (by omega)] at hj
        rw [spoils_length, hll] at hj hjl
        have hj4 : j - 3 * k < 3 := by
          have := (List.getElem?_eq_some_iff.1 hj).1
          simpa [Spoil.cells] using this
        have := hat (j - 3 * k) hj4
        rw [add_lit, add_lit, hj] at this
        rw [← this]
        congr 2; omega
  obtain ⟨l, hll, hlf, hlc⟩ := key len (Nat.le_refl _)
  exact ⟨l, .inl ⟨b, o, len, cap, rfl, by rw [spoils_length, hll]; omega, hl, hlc⟩, hlf⟩
end
end Go.Proofs.YtneehlkofcdhoaaGreat
