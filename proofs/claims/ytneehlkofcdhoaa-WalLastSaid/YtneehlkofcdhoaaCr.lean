/- The disk: what a crash leaves. -/
import Derived.Test.YtneehlkofcdhoaaWa
namespace Go.Proofs.Ytneehlkofcdhoaa
open Go
set_option linter.unusedSimpArgs false
open Go.RowKit (intOf)
theorem crashed_snoc (q : Nat → List (List UInt8)) (n k : Nat) : ∀ (ns ks : List Nat) (s : List (List UInt8)), ns.length = ks.length → crashed s q (ns ++ [n]) (ks ++ [k]) = (if k = 0 then crashed s q ns ks else (crashed s q ns ks).set n ((q n)[k - 1]?.getD []))
  | [], [], s, _ => by simp [crashed]
  | a :: ns, b :: ks, s, h => by
    simp only [List.cons_append, crashed]
    exact crashed_snoc q n k ns ks _ (by simpa using h)
theorem crashed_take (q : Nat → List (List UInt8)) : ∀ (ns ks : List Nat) (s : List (List UInt8)), crashed s q ns ks = crashed s q (ns.take ks.length) ks
  | [], ks, s => by simp
  | a :: ns, [], s => by simp [crashed]
  | a :: ns, b :: ks, s => by
    simp only [List.length_cons, List.take_succ_cons, crashed]
    exact crashed_take q ns ks _
theorem crashed_length (q : Nat → List (List UInt8)) : ∀ (ns ks : List Nat) (s : List (List UInt8)), (crashed s q ns ks).length = s.length
  | [], _, s => by simp [crashed]
  | a :: ns, [], s => by simp [crashed]
  | a :: ns, b :: ks, s => by
    simp only [crashed]
    rw [crashed_length q ns ks]
    split <;> simp
theorem crashed_rows {q : Nat → List (List UInt8)} (hq : ∀ n, ∀ b ∈ q n, b.length = 512) : ∀ (ns ks : List Nat) (s : List (List UInt8)), (∀ b ∈ s, b.length = 512) → (∀ i (h : i < ns.length) (h' : i < ks.length), ks[i] ≤ (q ns[i]).length) → ∀ b ∈ crashed s q ns ks, b.length = 512
  | [], _, s, hs, _ => by simpa [crashed] using hs
  | a :: ns, [], s, hs, _ => by simpa [crashed] using hs
  | a :: ns, b :: ks, s, hs, hk => by
    simp only [crashed]
    refine crashed_rows hq ns ks _ ?_ (fun i h h' => hk (i + 1) (Nat.succ_lt_succ h) (Nat.succ_lt_succ h'))
    split
    · exact hs
    · rename_i hb
      intro c hc
      rcases List.mem_or_eq_of_mem_set hc with hc | rfl
      · exact hs c hc
      · have h0 := hk 0 (by simp) (by simp)
        simp only [List.getElem_cons_zero] at h0
        have hlt : b - 1 < (q a).length := by omega
        rw [List.getElem?_eq_getElem hlt, Option.getD_some]
        exact hq a _ (List.getElem_mem hlt)
theorem own_fix {B : Nat} {t : TypeId} {w : World} {u : Value} {n : Nat} {xs : List Value} {G : Gh} (ho : w.ownsRow B t 1 u n xs) (hG : ∀ b, B ≤ b → maxLen ≤ G.fix b) : HasF G w u xs := by
  refine ⟨Has.own ho, fun b o l c hv _ => ?_⟩
  obtain ⟨hl, ⟨rfl, _⟩ | ⟨g, cap, cur, rfl, hB, _, hc, hm, _⟩⟩ := ho
  · cases hv
  · cases hv
    have := hG b hB; omega
/-- A choice that a crash takes. -/
def Dsk.may (D : Dsk) (ks : List Int) : Prop := ks.length ≤ D.waiting.length ∧ ∀ i (h : i < ks.length) (h' : i < D.waiting.length), 0 ≤ ks[i] ∧ ks[i] ≤ ((D.wait D.waiting[i]).length : Int)
theorem Dsk.Ok.crash {D : Dsk} (h : D.Ok) {ks : List Int} (hk : D.may ks) : (D.crash (ks.map Int.toNat)).Ok := by
  refine ⟨fun b hb => ?_, fun n b hb => (by cases hb), ?_, ?_⟩
  · refine crashed_rows h.wait _ _ _ h.safe (fun i hi hi' => ?_) b hb
    have hi2 : i < ks.length := by simpa using hi'
    have := hk.2 i hi2 hi
    simp only [List.getElem_map]; omega
  · show 0 < (crashed _ _ _ _).length
    rw [crashed_length, D.safe_length]; exact h.some
  · show (crashed _ _ _ _).length ≤ 4096
    rw [crashed_length, D.safe_length]; exact h.most

theorem crash_spec {G : Gh} {κ : Nat} {w : World} {p : Nat} {D : Dsk} {kv : Value} {ks : List Int} (κ' : Nat) (h : DiskAt G κ w p D) (hk : HasI w kv ks) (hkl : ks.length ≤ 140737488355328) :
    Calls Try.prog 69 #[.pointer (some ⟨p, 0, none⟩), kv] w (Ret fun v w' => (D.may ks → ∃ p' G', v = .tuple #[.pointer (some ⟨p', 0, none⟩), .int .i64 0] ∧ w.heap.size ≤ p' ∧ DiskAt G' κ' w' p' (D.crash (ks.map Int.toNat)) ∧ Ext0 G w G' w') ∧
      (¬ D.may ks → v = .tuple #[.pointer none, .int .i64 2] ∧ Grow w w')) := by
  have hwait := waiting_spec h
  obtain ⟨hok, hl, vf, vl, vs, m, hp, ho, hf, h1, h2, hs, hw⟩ := id h
  have hwl := D.waiting_length
  have hmost := hok.most
  have hwr : D.writes.length = D.waiting.length := by simp [Dsk.writes]
  apply enter69
  apply R_in
  simp (maxSteps := 600000) (disch := omega) only [F69, ↓sy1, sy2, sy3, readOK, sy5, sy6, Nat.reduceEqDiff, ↓reduceIte, sy7, sy8, sy9, sya, oneOf, syb, syc, Nat.reduceAdd, Nat.reduceMul, syd, sye, syf, syg, syh, reduceCtorEq]
  refine call0 hwait ?_
  rintro _ w1 ⟨a, b, rfl, ha, hb, _, hg1⟩
  have hla : ∀ w2, lenF w2 0 a = some (.int .i64 D.waiting.length) := fun w2 => by rw [(Has.own ha).lenI]; simp
  have hc2 : w.cell? ⟨p, 2, none⟩ = some vs := by rw [cell_block hp]; rfl
  have hc3 : w.cell? ⟨p, 3, none⟩ = some (.map (some m)) := by rw [cell_block hp]; rfl
  simp (maxSteps := 600000) (disch := omega) only [↓sy1, sy2, sy3, readOK, sy5, sy6, Nat.reduceEqDiff, ↓reduceIte, sy7, sy8, sy9, sya, oneOf, syb, syc, Nat.reduceAdd, Nat.reduceMul, syd, sye, syf, syg, syh, reduceCtorEq, hk.lenI, hla]
  by_cases hlen : D.waiting.length < ks.length
  · simp (maxSteps := 600000) (disch := omega) only [↓sy1, sy2, sy3, readOK, sy5, sy6, Nat.reduceEqDiff, ↓reduceIte, sy7, sy8, sy9, sya, oneOf, syb, syc, Nat.reduceAdd, Nat.reduceMul, syd, sye, syf, syg, syh, reduceCtorEq, Int.ofNat_lt, hlen, decide_true]
    exact R_out ⟨fun hm => by have := hm.1; omega, fun _ => hg1⟩
  simp (maxSteps := 600000) (disch := omega) only [↓sy1, sy2, sy3, readOK, sy5, sy6, Nat.reduceEqDiff, ↓reduceIte, sy7, sy8, sy9, sya, oneOf, syb, syc, Nat.reduceAdd, Nat.reduceMul, syd, sye, syf, syg, syh, reduceCtorEq, Int.ofNat_lt, hlen, decide_false, hg1.gcell hc2]
  obtain ⟨ts, sb, h4, h5, h6, h7, h8⟩ := id hs
  have htl := h6.length
  have hsl := D.safe_length
  refine call0 (slicesClone_spec vs ts w1 ((Has.own h5).grow hg1) h6.cell (by omega)) ?_
  rintro out w2 ⟨hout, hg2⟩
  have hg2w : Grow w w2 := hg1.trans hg2
  rw [htl, hsl] at hout
  simp (maxSteps := 600000) (disch := omega) only [↓sy1, sy2, sy3, readOK, sy5, sy6, Nat.reduceEqDiff, ↓reduceIte, sy7, sy8, sy9, sya, oneOf, syb, syc, Nat.reduceAdd, Nat.reduceMul, syd, sye, syf, syg, syh, reduceCtorEq, hk.lenI]
  refine loop_rule (fun e w' => ∃ (i : Nat) (us : List Value), i ≤ ks.length ∧ e 31 = .int .i64 i ∧ e 30 = .int .i64 ks.length ∧ e 29 = kv ∧ e 8 = out ∧ e 7 = b ∧ e 6 = a ∧ e 0 = .pointer (some ⟨p, 0, none⟩) ∧ Grow w1 w' ∧
      w'.ownsRow w1.heap.size 28 1 out D.first.length us ∧ RowsF G w us (crashed D.safe D.wait (D.waiting.take i) ((ks.map Int.toNat).take i)) ∧
      ∀ j (h : j < ks.length) (h' : j < D.waiting.length), j < i → 0 ≤ ks[j] ∧ ks[j] ≤ ((D.wait D.waiting[j]).length : Int)) (fun e _ => ks.length - (intOf (e 31)).toNat)
    ⟨0, ts, by omega, by simp [upd], by simp [upd], by simp [upd], by simp [upd], by simp [upd], by simp [upd], by simp [upd], hg2, hout, by simpa [crashed] using h6, fun j _ _ hj => by omega⟩ ?_
  rintro e w3 ⟨i, us, hi, e31, e30, e29, e8, e7, e6, e0, hg3, hown, hrows, hgood⟩
  have hgw3 := hg1.trans hg3
  by_cases hlt : i < ks.length
  · have hlt' : i < D.waiting.length := by omega
    obtain ⟨ak, hak, hakc, _⟩ := (hk.grow hgw3).getI hlt
    obtain ⟨aw, haw, hawc, _⟩ := ((Has.own hb).grow hg3).getI (i := i) (by simp; omega)
    have hwv : (zs D.writes)[i]'(by simp; omega) = (((D.wait D.waiting[i]).length : Nat) : Int) := by simp [Dsk.writes]
    rw [hwv] at hawc
    obtain ⟨an, han, hanc, _⟩ := ((Has.own ha).grow hg3).getI (i := i) (by simpa using hlt')
    have hnv : (zs D.waiting)[i]'(by simpa using hlt') = ((D.waiting[i] : Nat) : Int) := by simp
    rw [hnv] at hanc
    generalize hkk : ks[i] = kk at hakc
    by_cases hneg : kk < 0
    · simp (maxSteps := 600000) (disch := omega) only [F69_L0, ↓sy1, sy2, sy3, readOK, sy5, sy6, Nat.reduceEqDiff, ↓reduceIte, sy7, sy8, sy9, sya, oneOf, syb, syc, Nat.reduceAdd, Nat.reduceMul, syd, sye, syf, syg, syh, reduceCtorEq, e31, e30, e29, e8, e7, e6, e0, Int.ofNat_lt, hlt, decide_true, hak, hakc, hneg]
      exact R_out ⟨fun hm => by have := (hm.2 i hlt hlt').1; omega, fun _ => hgw3⟩
    by_cases hbig : (((D.wait D.waiting[i]).length : Nat) : Int) < kk
    · simp (maxSteps := 600000) (disch := omega) only [F69_L0, ↓sy1, sy2, sy3, readOK, sy5, sy6, Nat.reduceEqDiff, ↓reduceIte, sy7, sy8, sy9, sya, oneOf, syb, syc, Nat.reduceAdd, Nat.reduceMul, syd, sye, syf, syg, syh, reduceCtorEq, e31, e30, e29, e8, e7, e6, e0, Int.ofNat_lt, hlt, decide_true, hak, hakc, hneg, decide_false, haw, hawc, hbig]
      exact R_out ⟨fun hm => by have := (hm.2 i hlt hlt').2; omega, fun _ => hgw3⟩
    have hgood' : ∀ j (h : j < ks.length) (h' : j < D.waiting.length), j < i + 1 → 0 ≤ ks[j] ∧ ks[j] ≤ ((D.wait D.waiting[j]).length : Int) := fun j h h' hj => by
      by_cases hji : j = i
      · subst hji; rw [hkk]; omega
      · exact hgood j h h' (by omega)
    have hstep : crashed D.safe D.wait (D.waiting.take (i + 1)) ((ks.map Int.toNat).take (i + 1)) = if kk.toNat = 0 then crashed D.safe D.wait (D.waiting.take i) ((ks.map Int.toNat).take i) else (crashed D.safe D.wait (D.waiting.take i) ((ks.map Int.toNat).take i)).set D.waiting[i] ((D.wait D.waiting[i])[kk.toNat - 1]?.getD []) := by
      rw [List.take_succ_eq_append_getElem hlt', List.take_succ_eq_append_getElem (by simpa using hlt)]
      rw [crashed_snoc _ _ _ _ _ _ (by simp; omega)]
      simp [hkk]
    by_cases hpos : 0 < kk
    · simp (maxSteps := 600000) (disch := omega) only [F69_L0, ↓sy1, sy2, sy3, readOK, sy5, sy6, Nat.reduceEqDiff, ↓reduceIte, sy7, sy8, sy9, sya, oneOf, syb, syc, Nat.reduceAdd, Nat.reduceMul, syd, sye, syf, syg, syh, reduceCtorEq, e31, e30, e29, e8, e7, e6, e0, Int.ofNat_lt, hlt, decide_true, hak, hakc, hneg, decide_false, haw, hawc, hbig, hpos]
      refine draw69_0 (fun _ => False) ?_
      have hd : Grow w3 w3.drew := (Keep.refl _ _).drew
      have hc3' := (hgw3.trans hd).gcell hc3
      have hanc' := hd.gcell hanc
      have hown4 := own_grow hown hd
      have hg4 : Grow w1 w3.drew := hg3.trans hd
      generalize w3.drew = w4 at hc3' hanc' hown4 hg4 ⊢
      have hne : D.wait D.waiting[i] ≠ [] := (Dsk.mem_waiting hok).1 (List.getElem_mem hlt')
      have hin : D.waiting[i] < D.first.length := hok.waits hne
      generalize hnn : D.waiting[i] = n at hne hin hstep hanc' hbig
      obtain ⟨v, u, hlk, hrb, av, hav, havc⟩ : ∃ v u, lkpV w4 (.slice none 0 0) false (.map (some m)) (.int .i64 (n : Nat)) = some v ∧ HasFB G w u ((D.wait n)[kk.toNat - 1]?.getD []) ∧ ∃ av, iaF 1 v (.int .i64 (kk - 1)) = some (.pointer (some av)) ∧ w4.cell? av = some u := by
        rcases hw.lkp n with ⟨hq, _⟩ | ⟨v, hlk, us', b', c', rfl, hu, hr, _⟩
        · exact absurd hq hne
        have hul := hr.length
        obtain ⟨av, hav, havc, _⟩ := (hu.1.grow (hg1.trans hg4)).idx (i := kk.toNat - 1) (by omega)
        have hcast : kk - 1 = ((kk.toNat - 1 : Nat) : Int) := by omega
        refine ⟨_, us'[kk.toNat - 1], ?_, ?_, av, by rw [hcast]; exact hav, havc⟩
        · obtain ⟨es, clk, hes, _⟩ := hw
          rw [lkpV_eq ((hg1.trans hg4).gheap hes |>.trans hes.symm)]; exact hlk
        · rw [List.getElem?_eq_getElem (by omega), Option.getD_some]
          exact hr.get _ (by omega) (by omega)
      have hql := D.wait_length n
      obtain ⟨a2, w5, ha2, hst, ho5, hk5, hb5⟩ := own_store hown4 hin hrb.1.isCell
      simp (maxSteps := 600000) (disch := omega) only [PL69_0, ↓sy1, sy2, sy3, readOK, sy5, sy6, Nat.reduceEqDiff, ↓reduceIte, sy7, sy8, sy9, sya, oneOf, syb, syc, Nat.reduceAdd, Nat.reduceMul, syd, sye, syf, syg, syh, reduceCtorEq, e31, e30, e29, e8, e7, e6, e0, hak, hakc, han, hanc', hc3', hlk, hav, havc, ha2, hst]
      have hgw5 : Grow w1 w5 := hg4.then hk5 (fun b hb h => by
        obtain ⟨hbb, _⟩ := World.ownsRow.lt hown4 b h; omega)
      refine R_out ⟨⟨i + 1, us.set n u, by omega, rfl, hgw5, ho5, ?_, hgood'⟩, ?_⟩
      · rw [hstep, if_neg (by omega)]
        exact hrows.set _ hrb
      · simp only [intOf]; omega
    · have hk0 : kk = 0 := by omega
      simp (maxSteps := 600000) (disch := omega) only [F69_L0, ↓sy1, sy2, sy3, readOK, sy5, sy6, Nat.reduceEqDiff, ↓reduceIte, sy7, sy8, sy9, sya, oneOf, syb, syc, Nat.reduceAdd, Nat.reduceMul, syd, sye, syf, syg, syh, reduceCtorEq, e31, e30, e29, e8, e7, e6, e0, Int.ofNat_lt, hlt, decide_true, hak, hakc, hneg, decide_false, haw, hawc, hbig, hpos]
      refine R_out ⟨⟨i + 1, us, by omega, rfl, hg3, hown, ?_, hgood'⟩, ?_⟩
      · rw [hstep, hk0]; simpa using hrows
      · simp only [intOf]; omega
  · have hie : i = ks.length := by omega
    subst hie
    have hmay : D.may ks := ⟨by omega, fun j h h' => hgood j h h' h⟩
    simp (maxSteps := 600000) (disch := omega) only [F69_L0, ↓sy1, sy2, sy3, readOK, sy5, sy6, Nat.reduceEqDiff, ↓reduceIte, sy7, sy8, sy9, sya, oneOf, syb, syc, Nat.reduceAdd, Nat.reduceMul, syd, sye, syf, syg, syh, reduceCtorEq, e31, e30, e29, e8, e7, e6, e0, Int.ofNat_lt, hlt, decide_false]
    have hx : Ext0 G w (G.upto w1.heap.size (fun _ => 0) (fun _ => maxLen)) w3 := (Ext.grow hg1).trans (.upto hg3 _ _)
    have hra : RowsAt (G.upto w1.heap.size (fun _ => 0) (fun _ => maxLen)) w3 out (D.crash (ks.map Int.toNat)).first := by
      refine ⟨us, own_fix hown (fun b hb => by simp [Gh.upto, Nat.not_lt.2 hb]), ?_⟩
      have he : crashed D.safe D.wait D.waiting (ks.map Int.toNat) = crashed D.safe D.wait (D.waiting.take ks.length) ((ks.map Int.toNat).take ks.length) := by
        rw [crashed_take, List.length_map, List.take_of_length_le (l := ks.map Int.toNat) (by simp)]
      show RowsF _ _ _ (crashed D.safe D.wait D.waiting (ks.map Int.toNat))
      rw [he]
      exact hrows.ext hx
    refine call0 (begun_spec κ' hra (hok.crash hmay)) ?_
    rintro v w4 ⟨p', G', rfl, hp', hd, hx2⟩
    simp (maxSteps := 600000) (disch := omega) only [↓sy1, sy2, sy3, readOK, sy5, sy6, Nat.reduceEqDiff, ↓reduceIte, sy7, sy8, sy9, sya, oneOf, syb, syc, Nat.reduceAdd, Nat.reduceMul, syd, sye, syf, syg, syh, reduceCtorEq]
    exact R_out ⟨fun _ => ⟨p', G', rfl, Nat.le_trans hgw3.size hp', hd, hx.trans hx2⟩, fun hn => absurd hmay hn⟩
end Go.Proofs.Ytneehlkofcdhoaa
