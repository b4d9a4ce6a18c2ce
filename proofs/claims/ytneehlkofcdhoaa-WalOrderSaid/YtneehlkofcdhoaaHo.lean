/- Pages are brought home. -/
import Derived.Test.YtneehlkofcdhoaaSh
namespace Go.Proofs.Ytneehlkofcdhoaa
open Go
set_option linter.unusedSimpArgs false
open Go.RowKit (intOf)
/-- A row that others than κ hold. -/
def Held (G : Gh) (κ : Nat) (w : World) (v : Value) (xs : List Value) : Prop := Has 1 w v xs ∧ ∀ b, v.ownBlock = some b → xs ≠ [] → b < w.heap.size ∧ G.own b ≠ κ
theorem Held.ext {κ : Nat} {G G' : Gh} {w w' : World} {v : Value} {xs : List Value} (h : Held G κ w v xs) (hx : Ext (fun c => c = κ) G w G' w') : Held G' κ w' v xs := by
  refine ⟨h.1.keep hx.keep (fun b hb hne => (h.2 b hb hne).2), fun b hb hne => ?_⟩
  obtain ⟨h1, h2⟩ := h.2 b hb hne
  exact ⟨Nat.lt_of_lt_of_le h1 hx.size, by rw [hx.own b h1]; exact h2⟩
theorem Held.nil (G : Gh) (κ : Nat) (w : World) : Held G κ w (.slice none 0 0) [] := ⟨Has.nil 1 w, fun _ _ h => absurd rfl h⟩
theorem homeOps_take (size : Nat) (ps : List (Nat × List UInt8)) {i : Nat} (h : i < ps.length) : homeOps size (ps.take (i + 1)) = homeOps size (ps.take i) ++ [.wr (size + 1 + ps[i].1) ps[i].2] := by
  rw [homeOps, List.take_succ_eq_append_getElem h, List.map_append]; rfl
theorem adds_snoc (D : Dsk) (l : List DOp) (o : DOp) : adds D (l ++ [o]) = (adds D l).add o := by rw [adds_append]; rfl
/-- The disk behind home. -/
def homed (size : Nat) (D : Dsk) (ps : List (Nat × List UInt8)) : Dsk := (((adds D (homeOps size ps)).add .fl).add (.wr 0 (headB []))).add .fl
theorem home_spec {G : Gh} {κ : Nat} {w : World} {q size came : Nat} {D : Dsk} {nv : Value} {ps : List (Nat × List UInt8)} (h : LogAt G κ w q size came D) (hn : Held G κ w nv (ints (zs (ps.map (·.1))))) (hl : ps.length ≤ size) (hb : ∀ p ∈ ps, p.2.length = 512 ∧ size + 1 + p.1 < D.first.length)
    (himg : ∀ i (h : i < ps.length), D.image[1 + i]? = some ps[i].2) (ho : D.ops.length + ps.length < 800000) :
    Calls Try.prog 46 #[.pointer (some ⟨q, 0, none⟩), nv] w (Ret fun _ w' => ∃ G', LogAt G' κ w' q size came (homed size D ps) ∧ Ext (fun c => c = κ) G w G' w') := by
  have hlen : ∀ w', lenF w' 0 nv = some (.int .i64 ps.length) := fun w' => by rw [Has.lenI hn.1]; simp
  apply enter46
  apply R_in
  simp (maxSteps := 600000) (disch := omega) only [F46, ↓sy1, sy2, sy3, readOK, sy5, sy6, Nat.reduceEqDiff, ↓reduceIte, sy7, sy8, sy9, sya, oneOf, syb, syc, Nat.reduceAdd, Nat.reduceMul, syd, sye, syf, syg, syh, reduceCtorEq, hlen]
  have hsz := h.2.2.1
  refine loop_rule (fun e w' => ∃ (i : Nat) (G' : Gh), i ≤ ps.length ∧ e 10 = .int .i64 i ∧ e 9 = .int .i64 ps.length ∧ e 8 = nv ∧ e 0 = .pointer (some ⟨q, 0, none⟩) ∧ LogAt G' κ w' q size came (adds D (homeOps size (ps.take i))) ∧ Ext (fun c => c = κ) G w G' w') (fun e _ => ps.length - (intOf (e 10)).toNat)
    ⟨0, G, by omega, by simp [upd, updO, ev], by simp [upd, updO, ev], by simp [upd, updO, ev], by simp [upd, updO, ev], h, .refl _ _ _⟩ ?_
  rintro e w1 ⟨i, G1, hi, e10, e9, e8, e0, h1, hx1⟩
  have hlog := h1
  obtain ⟨hκ, hs1, hs2, ho0, p, hq, hd⟩ := h1
  have hqp : ∀ {w'}, Grow w1 w' → w'.cell? ⟨q, 0, none⟩ = some (.pointer (some ⟨p, 0, none⟩)) ∧ w'.cell? ⟨q, 1, none⟩ = some (.int .i64 size) := fun hg => ⟨by rw [cell_block (hg.gheap hq)]; rfl, by rw [cell_block (hg.gheap hq)]; rfl⟩
  have hf : (adds D (homeOps size (ps.take i))).first = D.first := adds_first _ _
  have hops : (adds D (homeOps size (ps.take i))).ops.length ≤ D.ops.length + i := by
    rw [adds_ops]; simp [homeOps]; omega
  have hmost := hd.ok.most
  rw [hf] at hmost
  by_cases hlt : i < ps.length
  · obtain ⟨a, ha, hac, _⟩ := Has.getI (l := zs (ps.map (·.1))) (hn.ext hx1).1 (i := i) (by simpa using hlt)
    have hnv : (zs (ps.map (·.1)))[i]'(by simpa using hlt) = ((ps[i].1 : Nat) : Int) := by simp
    rw [hnv] at hac
    simp (maxSteps := 600000) (disch := omega) only [F46_L0, ↓sy1, sy2, sy3, readOK, sy5, sy6, Nat.reduceEqDiff, ↓reduceIte, sy7, sy8, sy9, sya, oneOf, syb, syc, Nat.reduceAdd, Nat.reduceMul, syd, sye, syf, syg, syh, reduceCtorEq, e10, e9, e8, e0, Int.ofNat_lt, hlt, decide_true, ha, hac, hqp (Keep.refl _ _)]
    rw [show (1 : Int) + (i : Int) = ((1 + i : Nat) : Int) from by omega]
    obtain ⟨hb1, hb2⟩ := hb ps[i] (List.getElem_mem hlt)
    refine call0 (read_spec hd (n := 1 + i) (by rw [hf]; omega)) ?_
    rintro _ w2 ⟨u, rfl, hu, hg2⟩
    have hcur : (adds D (homeOps size (ps.take i))).image[1 + i]? = some ps[i].2 := by
      rw [image_home_other size (1 + i) _ _ (fun r hr => by omega)]; exact himg i hlt
    have hcur' : (adds D (homeOps size (ps.take i))).image[1 + i]'(by rw [Dsk.image_length, hf]; omega) = ps[i].2 := by
      rw [List.getElem?_eq_getElem (by rw [Dsk.image_length, hf]; omega)] at hcur; exact Option.some.inj hcur
    rw [hcur'] at hu
    simp (maxSteps := 600000) (disch := omega) only [↓sy1, sy2, sy3, readOK, sy5, sy6, Nat.reduceEqDiff, ↓reduceIte, sy7, sy8, sy9, sya, oneOf, syb, syc, Nat.reduceAdd, Nat.reduceMul, syd, sye, syf, syg, syh, reduceCtorEq, e10, e9, e8, e0]
    refine draw46_0 (fun _ => False) ?_
    have hgd : Grow w2 w2.drew := (Keep.refl _ _).drew
    have hg3 := hg2.trans hgd
    have hu3 := own_grow hu hgd
    generalize w2.drew = w3 at hg3 hu3 ⊢
    simp (maxSteps := 600000) (disch := omega) only [PL46_0, ↓sy1, sy2, sy3, readOK, sy5, sy6, Nat.reduceEqDiff, ↓reduceIte, sy7, sy8, sy9, sya, oneOf, syb, syc, Nat.reduceAdd, Nat.reduceMul, syd, sye, syf, syg, syh, reduceCtorEq, e10, e9, e8, e0, hqp hg3]
    rw [show (size : Int) + 1 + ((ps[i].1 : Nat) : Int) = ((size + 1 + ps[i].1 : Nat) : Int) from by omega]
    refine call0 (write_spec (hd.grow hg3) (by rw [hf]; exact hb2) hb1 (Has.own hu3) (by omega)) ?_
    rintro _ w4 ⟨rfl, G4, hd4, hx4⟩
    simp (maxSteps := 600000) (disch := omega) only [↓sy1, sy2, sy3, readOK, sy5, sy6, Nat.reduceEqDiff, ↓reduceIte, sy7, sy8, sy9, sya, oneOf, syb, syc, Nat.reduceAdd, Nat.reduceMul, syd, sye, syf, syg, syh, reduceCtorEq, e10, e9, e8, e0]
    have hx14 : Ext (fun c => c = κ) G1 w1 G4 w4 := (Ext.grow hg3).trans hx4
    have hstep : adds D (homeOps size (ps.take (i + 1))) = (adds D (homeOps size (ps.take i))).add (.wr (size + 1 + ps[i].1) ps[i].2) := by rw [homeOps_take size ps hlt, adds_snoc]
    refine R_out ⟨⟨i + 1, G4, by omega, rfl, by rw [hstep]; exact hlog.put (hqp (Keep.refl _ _)).1 hx14 rfl hd4, hx1.trans hx14⟩, ?_⟩
    simp only [intOf]; omega
  · have hie : i = ps.length := by omega
    subst hie
    rw [List.take_length] at hlog hd hops hf
    simp (maxSteps := 600000) (disch := omega) only [F46_L0, ↓sy1, sy2, sy3, readOK, sy5, sy6, Nat.reduceEqDiff, ↓reduceIte, sy7, sy8, sy9, sya, oneOf, syb, syc, Nat.reduceAdd, Nat.reduceMul, syd, sye, syf, syg, syh, reduceCtorEq, e10, e9, e8, e0, Int.ofNat_lt, hlt, decide_false, hqp (Keep.refl _ _)]
    refine call0 (flush_spec hd (by omega)) ?_
    rintro _ w2 ⟨rfl, G2, hd2, hx2⟩
    have hlog2 := hlog.put (E := (adds D (homeOps size ps)).add .fl) (hqp (Keep.refl _ _)).1 hx2 rfl hd2
    simp (maxSteps := 600000) (disch := omega) only [↓sy1, sy2, sy3, readOK, sy5, sy6, Nat.reduceEqDiff, ↓reduceIte, sy7, sy8, sy9, sya, oneOf, syb, syc, Nat.reduceAdd, Nat.reduceMul, syd, sye, syf, syg, syh, reduceCtorEq, e0]
    refine call0 (setHead_spec (ns := []) hlog2 (Has.nil 1 w2) (by simp) (by simp [Dsk.add]; omega)) ?_
    rintro _ w3 ⟨G3, hlog3, hx3⟩
    simp (maxSteps := 600000) (disch := omega) only [↓sy1, sy2, sy3, readOK, sy5, sy6, Nat.reduceEqDiff, ↓reduceIte, sy7, sy8, sy9, sya, oneOf, syb, syc, Nat.reduceAdd, Nat.reduceMul, syd, sye, syf, syg, syh, reduceCtorEq]
    exact R_out ⟨G3, hlog3, (hx1.trans hx2).trans hx3⟩
end Go.Proofs.Ytneehlkofcdhoaa
