/- A disk of sectors in plain words: its first image and what was done with it. -/
namespace Go.Proofs.Ytneehlkofcdhoaa

inductive DOp where
  | wr (n : Nat) (b : List UInt8)
  | fl

structure Dsk where
  first : List (List UInt8)
  ops : List DOp

abbrev DState := List (List UInt8) × (Nat → List (List UInt8))

/-- The last of what waits, else what is safe. -/
def lastOr (q : List (List UInt8)) (d : List UInt8) : List UInt8 := q.getLast?.getD d
def flushed (s : List (List UInt8)) (q : Nat → List (List UInt8)) : List (List UInt8) := s.mapIdx fun n b => lastOr (q n) b

def dstep : DState → DOp → DState
  | (s, q), .wr n b => (s, fun m => if m = n then q n ++ [b] else q m)
  | (s, q), .fl => (flushed s q, fun _ => [])

def Dsk.st (D : Dsk) : DState := D.ops.foldl dstep (D.first, fun _ => [])
def Dsk.safe (D : Dsk) : List (List UInt8) := D.st.1
def Dsk.wait (D : Dsk) : Nat → List (List UInt8) := D.st.2
def Dsk.image (D : Dsk) : List (List UInt8) := flushed D.safe D.wait
def Dsk.add (D : Dsk) (o : DOp) : Dsk := { D with ops := D.ops ++ [o] }

theorem Dsk.st_add (D : Dsk) (o : DOp) : (D.add o).st = dstep D.st o := by simp [Dsk.st, Dsk.add, List.foldl_append]
theorem Dsk.safe_wr (D : Dsk) (n : Nat) (b : List UInt8) : (D.add (.wr n b)).safe = D.safe := by simp [Dsk.safe, Dsk.st_add, dstep]
theorem Dsk.wait_wr (D : Dsk) (n : Nat) (b : List UInt8) : (D.add (.wr n b)).wait = fun m => if m = n then D.wait n ++ [b] else D.wait m := by simp [Dsk.wait, Dsk.st_add, dstep]
theorem Dsk.safe_fl (D : Dsk) : (D.add .fl).safe = D.image := by simp [Dsk.safe, Dsk.image, Dsk.wait, Dsk.st_add, dstep]
theorem Dsk.wait_fl (D : Dsk) : (D.add .fl).wait = fun _ => [] := by simp [Dsk.wait, Dsk.st_add, dstep]
theorem Dsk.safe_new (f : List (List UInt8)) : (⟨f, []⟩ : Dsk).safe = f := rfl
theorem Dsk.wait_new (f : List (List UInt8)) : (⟨f, []⟩ : Dsk).wait = fun _ => [] := rfl
theorem flushed_length (s : List (List UInt8)) (q : Nat → List (List UInt8)) : (flushed s q).length = s.length := by simp [flushed]
theorem Dsk.safe_length (D : Dsk) : D.safe.length = D.first.length := by
  have : ∀ (l : List DOp) (s : DState), (l.foldl dstep s).1.length = s.1.length := by
    intro l
    induction l with
    | nil => intro s; rfl
    | cons o l ih =>
      intro s
      rw [List.foldl_cons, ih]
      obtain ⟨s, q⟩ := s
      cases o with
      | wr n b => rfl
      | fl => simp [dstep, flushed_length]
  exact this _ _
theorem Dsk.image_length (D : Dsk) : D.image.length = D.first.length := by simp [Dsk.image, flushed_length, D.safe_length]

/-- Such as it must be: sectors of 512 bytes, writes to sectors that are there. -/
structure Dsk.Ok (D : Dsk) : Prop where
  rows : ∀ b ∈ D.first, b.length = 512
  ops : ∀ n b, DOp.wr n b ∈ D.ops → n < D.first.length ∧ b.length = 512
  some : 0 < D.first.length
  most : D.first.length ≤ 4096

theorem Dsk.Ok.st {D : Dsk} (h : D.Ok) : (∀ b ∈ D.safe, b.length = 512) ∧ ∀ n, (∀ b ∈ D.wait n, b.length = 512) ∧ (D.wait n ≠ [] → n < D.first.length) := by
  have : ∀ (l : List DOp) (s : DState), (∀ n b, DOp.wr n b ∈ l → n < D.first.length ∧ b.length = 512) → ((∀ b ∈ s.1, b.length = 512) ∧ ∀ n, (∀ b ∈ s.2 n, b.length = 512) ∧ (s.2 n ≠ [] → n < D.first.length)) →
      ((∀ b ∈ (l.foldl dstep s).1, b.length = 512) ∧ ∀ n, (∀ b ∈ (l.foldl dstep s).2 n, b.length = 512) ∧ ((l.foldl dstep s).2 n ≠ [] → n < D.first.length)) := by
    intro l
    induction l with
    | nil => intro s _ h; exact h
    | cons o l ih =>
      intro s hl hs
      rw [List.foldl_cons]
      refine ih _ (fun n b hm => hl n b (by simp [hm])) ?_
      obtain ⟨s, q⟩ := s
      cases o with
      | wr n b =>
        obtain ⟨h1, h2⟩ := hl n b (by simp)
        refine ⟨hs.1, fun m => ?_⟩
        simp only [dstep]
        by_cases hm : m = n
        · subst hm
          simp only [if_pos rfl]
          refine ⟨fun c hc => ?_, fun _ => h1⟩
          rcases List.mem_append.1 hc with hc | hc
          · exact (hs.2 m).1 c hc
          · simp at hc; subst hc; exact h2
        · simp only [if_neg hm]; exact hs.2 m
      | fl =>
        refine ⟨fun b hb => ?_, fun m => by simp [dstep]⟩
        simp only [dstep, flushed, List.mem_mapIdx] at hb
        obtain ⟨i, hi, rfl⟩ := hb
        unfold lastOr
        cases hq : (q i).getLast? with
        | none => simp; exact hs.1 _ (List.getElem_mem hi)
        | some c => simp; exact (hs.2 i).1 c (List.mem_of_getLast? hq)
  exact this D.ops _ h.ops ⟨h.rows, fun n => by simp⟩
theorem Dsk.Ok.safe {D : Dsk} (h : D.Ok) : ∀ b ∈ D.safe, b.length = 512 := h.st.1
theorem Dsk.Ok.wait {D : Dsk} (h : D.Ok) (n : Nat) : ∀ b ∈ D.wait n, b.length = 512 := (h.st.2 n).1
theorem Dsk.Ok.waits {D : Dsk} (h : D.Ok) {n : Nat} (hn : D.wait n ≠ []) : n < D.first.length := (h.st.2 n).2 hn
theorem flushed_rows {s : List (List UInt8)} {q : Nat → List (List UInt8)} (hs : ∀ b ∈ s, b.length = 512) (hq : ∀ n, ∀ b ∈ q n, b.length = 512) : ∀ b ∈ flushed s q, b.length = 512 := by
  intro b hb
  simp only [flushed, List.mem_mapIdx] at hb
  obtain ⟨i, hi, rfl⟩ := hb
  unfold lastOr
  cases h : (q i).getLast? with
  | none => simp; exact hs _ (List.getElem_mem hi)
  | some c => simp; exact hq i c (List.mem_of_getLast? h)
theorem Dsk.Ok.image {D : Dsk} (h : D.Ok) : ∀ b ∈ D.image, b.length = 512 := flushed_rows h.safe h.wait
theorem Dsk.Ok.wr {D : Dsk} (h : D.Ok) {n : Nat} {b : List UInt8} (hn : n < D.first.length) (hb : b.length = 512) : (D.add (.wr n b)).Ok :=
  ⟨h.rows, fun m c hm => (by
    simp only [Dsk.add, List.mem_append, List.mem_singleton] at hm
    rcases hm with hm | hm
    · exact h.ops m c hm
    · cases hm; exact ⟨hn, hb⟩), h.some, h.most⟩
theorem Dsk.Ok.fl {D : Dsk} (h : D.Ok) : (D.add .fl).Ok :=
  ⟨h.rows, fun m c hm => (by
    simp only [Dsk.add, List.mem_append, List.mem_singleton] at hm
    rcases hm with hm | hm
    · exact h.ops m c hm
    · cases hm), h.some, h.most⟩

/-- The sectors that wait, rising. -/
def Dsk.waiting (D : Dsk) : List Nat := (List.range D.first.length).filter fun n => !(D.wait n).isEmpty
def Dsk.writes (D : Dsk) : List Nat := D.waiting.map fun n => (D.wait n).length

/-- What a crash leaves: of the i-th sector that waits the first keep[i] writes are done. -/
def crashed (s : List (List UInt8)) (q : Nat → List (List UInt8)) : List Nat → List Nat → List (List UInt8)
  | n :: ns, k :: ks => crashed (if k = 0 then s else s.set n ((q n)[k - 1]?.getD [])) q ns ks
  | _, _ => s
def Dsk.crash (D : Dsk) (keep : List Nat) : Dsk := ⟨crashed D.safe D.wait D.waiting keep, []⟩
def zsec : List UInt8 := List.replicate 512 0
theorem zsec_length : zsec.length = 512 := List.length_replicate
def Dsk.zero (n : Nat) : Dsk := ⟨List.replicate n zsec, []⟩
def Dsk.cut (D : Dsk) (k : Nat) : Dsk := ⟨D.first, D.ops.take k⟩
theorem Dsk.zero_ok {n : Nat} (h : 0 < n) (h' : n ≤ 4096) : (Dsk.zero n).Ok :=
  ⟨fun b hb => by rw [(List.mem_replicate.1 hb).2]; exact zsec_length, fun m c hm => (by cases hm), by rw [show (Dsk.zero n).first.length = n from List.length_replicate]; exact h, by rw [show (Dsk.zero n).first.length = n from List.length_replicate]; exact h'⟩
theorem Dsk.image_get (D : Dsk) (n : Nat) (h : n < D.image.length) (h' : n < D.safe.length) : D.image[n] = lastOr (D.wait n) D.safe[n] := by
  simp [Dsk.image, flushed]
end Go.Proofs.Ytneehlkofcdhoaa
