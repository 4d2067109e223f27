/- Regions that draw their order: whatever order. -/
import Derived.Test.YtpakohboamfmjabPlDraw2
namespace Go.Proofs.Ytpakohboamfmjab.Pl
open Go.RowKit

section
variable {P : Program} {T : TyTab} {N : Nat} {B0 : Nat → Prop} {F0 : Nat → Prop} {w0 : World}

/-- What is new so far. -/
def newsD (listed : Nat → Bool) : Nat → List DR → List (Nat × AO)
  | _, [] => []
  | i, r :: rs => match r.al with
    | some o => bif listed i then (r.d, o) :: newsD listed (i + 1) rs else newsD listed (i + 1) rs
    | none => newsD listed (i + 1) rs

theorem newsD_mem {L : Nat → Bool} : ∀ {rs : List DR} {i : Nat} {p : Nat × AO}, p ∈ newsD L i rs ↔ ∃ j r, rs[j]? = some r ∧ L (i + j) = true ∧ r.al = some p.2 ∧ r.d = p.1
  | [], i, p => by simp [newsD]
  | r :: rs, i, p => by
    have hrec : (∃ j r', rs[j]? = some r' ∧ L (i + 1 + j) = true ∧ r'.al = some p.2 ∧ r'.d = p.1) ↔ ∃ j r', (r :: rs)[j + 1]? = some r' ∧ L (i + (j + 1)) = true ∧ r'.al = some p.2 ∧ r'.d = p.1 := by
      have e : ∀ j, i + 1 + j = i + (j + 1) := fun j => by omega
      simp only [List.getElem?_cons_succ, e]
    have hsplit : (∃ j r', (r :: rs)[j]? = some r' ∧ L (i + j) = true ∧ r'.al = some p.2 ∧ r'.d = p.1) ↔ (L i = true ∧ r.al = some p.2 ∧ r.d = p.1) ∨ ∃ j r', (r :: rs)[j + 1]? = some r' ∧ L (i + (j + 1)) = true ∧ r'.al = some p.2 ∧ r'.d = p.1 := by
      constructor
      · rintro ⟨j, r', h1, h2⟩
        cases j with
        | zero => simp at h1; subst h1; exact .inl h2
        | succ j => exact .inr ⟨j, r', h1, h2⟩
      · rintro (h | ⟨j, r', h⟩)
        · exact ⟨0, r, rfl, h⟩
        · exact ⟨j + 1, r', h⟩
    rw [hsplit, ← hrec]
    simp only [newsD]
    cases ha : r.al with
    | none => rw [newsD_mem (rs := rs)]; simp
    | some o =>
      simp only [Option.some.injEq]
      cases hl : L i with
      | false => simp only [cond_false]; rw [newsD_mem (rs := rs)]; simp
      | true =>
        simp only [cond_true, List.mem_cons]
        rw [newsD_mem (rs := rs)]
        constructor
        · rintro (rfl | h)
          · exact .inl ⟨trivial, rfl, rfl⟩
          · exact .inr h
        · rintro (⟨_, h1, h2⟩ | h)
          · left; obtain ⟨a, b⟩ := p; simp_all
          · exact .inr h

theorem look_of_mem {α : Type} : ∀ {l : List (Nat × α)} {t : Nat} {v : α}, (t, v) ∈ l → (∀ p ∈ l, p.1 = t → p.2 = v) → look t l = some v
  | [], t, v, h, _ => by simp at h
  | (k, x) :: r, t, v, h, hu => by
    rw [look_cons]
    by_cases e : t = k
    · subst e
      simp only [if_true]
      exact congrArg some (hu (t, x) (List.mem_cons_self ..) rfl)
    · simp only [e, if_false]
      rcases List.mem_cons.1 h with h | h
      · injection h with h1 h2; exact absurd h1 e
      · exact look_of_mem h (fun p hp => hu p (List.mem_cons_of_mem _ hp))
theorem look_append {α : Type} (t : Nat) : ∀ (l r : List (Nat × α)), look t (l ++ r) = match look t l with | some v => some v | none => look t r
  | [], r => rfl
  | (k, x) :: l, r => by
    rw [List.cons_append, look_cons, look_cons, look_append t l r]
    by_cases e : t = k <;> simp [e]

/-- The same objects under another list. -/
theorem Heap.look_eq {σ σ' : List (Nat × AO)} {m : Nat → Value} {kk : Nat → Nat} {w : World} (H : Heap B0 F0 w0 σ m kk w) (h : ∀ l, look l σ' = look l σ) : Heap B0 F0 w0 σ' m kk w := by
  have hF : ∀ b, Fc F0 B0 σ m b ↔ Fc F0 B0 σ' m b := fun b => by simp only [Fc, h]
  have hF' : Fc F0 B0 σ' m = Fc F0 B0 σ m := funext fun b => propext (hF b).symm
  refine ⟨H.base, H.below, fun l o hl => ?_, fun l l' o o' hl hl' hne => ?_⟩
  · rw [h] at hl; rw [hF']; exact H.ob l o hl
  · rw [h] at hl hl'; exact H.dj l l' o o' hl hl' hne
theorem Fc_look {σ σ' : List (Nat × AO)} {m : Nat → Value} (h : ∀ l, look l σ' = look l σ) : Fc F0 B0 σ' m = Fc F0 B0 σ m :=
  funext fun b => by simp only [Fc, h]

/-- Does a value name one of these? -/
def Entry (F : Nat → Prop) (m : Nat → Value) (kk : Nat → Nat) (a : Act) (w : World) (r : DR) : Prop :=
  (HoldsG r.e.gs a ∧ r.e.G ∧ r.e.v.rel w F m kk (a.tmps.getD r.d undef)) ∨ (¬ HoldsG r.e.gs a ∧ a.tmps.getD r.d undef = undef)

structure RD (s : St) (recs : List DR) (L : Nat → Bool) (N : Nat) (B0 : Nat → Prop) (F0 : Nat → Prop) (w0 : World) (m : Nat → Value) (kk : Nat → Nat) (a : Act) (w : World) : Prop where
  H : Heap B0 F0 w0 (newsD L 0 recs ++ s.σ) m kk w
  ph : ∀ t v, look t s.φ = some v → (∀ r ∈ recs, r.d ≠ t) → v.rel w (Fc F0 B0 (newsD L 0 recs ++ s.σ) m) m kk (a.tmps.getD t undef)
  en : ∀ i r, recs[i]? = some r → L i = true → Entry (Fc F0 B0 (newsD L 0 recs ++ s.σ) m) m kk a w r
  gd : ∀ (i : Nat) (r : DR), recs[i]? = some r → L i = true → ∀ q ∈ r.e.gs, (∃ (j : Nat) (r' : DR), recs[j]? = some r' ∧ r'.d = q.1 ∧ L j = true) ∨ ∀ r' ∈ recs, r'.d ≠ q.1
  df : a.defers = []
  sz : a.tmps.size = N

/-- What is known of the records as a whole. -/
structure Good (T : TyTab) (P : Program) (N : Nat) (ops : Array Oper) (s : St) (recs : List DR) : Prop where
  ok : RecsOK T P N ops s recs []
  uniq : ∀ (i j : Nat) (r r' : DR), recs[i]? = some r → recs[j]? = some r' → r.d = r'.d → i = j
  fresh : ∀ (i : Nat) (r : DR) (o : AO), recs[i]? = some r → r.al = some o → freeF r.d s.φ = true ∧ freeS r.d s.σ = true ∧ ∀ (j : Nat) (r' : DR), recs[j]? = some r' → j ≠ i → r'.e.v.free r.d = true
  wait : ∀ (i : Nat) (r : DR), recs[i]? = some r → ∀ t ∈ r.o.looksAt ops, ∀ (j : Nat) (r' : DR), recs[j]? = some r' → r'.d = t → j < i ∧ ∃ ed ∈ r.o.after, ed.on = j ∧ Region.binds .any ed = true

theorem newsD_same {L L' : Nat → Bool} : ∀ {rs : List DR} {i : Nat}, (∀ (j : Nat) (r : DR), rs[j]? = some r → r.al ≠ none → L' (i + j) = L (i + j)) → newsD L' i rs = newsD L i rs
  | [], _, _ => rfl
  | r :: rs, i, h => by
    have ih : newsD L' (i + 1) rs = newsD L (i + 1) rs := newsD_same fun j r' h1 h2 => by
      have := h (j + 1) r' (by simpa using h1) h2
      have e : i + 1 + j = i + (j + 1) := by omega
      rw [e]; exact this
    simp only [newsD, ih]
    cases ha : r.al with
    | none => rfl
    | some o => have := h 0 r rfl (by simp [ha]); simp only [Nat.add_zero] at this; simp only [this]

section
variable {ops : Array Oper} {s : St} {recs : List DR}

theorem ahead_mem {i : Nat} {t : Nat} {e : GE} (h : look t (recψ (recs.take i) []) = some e) : ∃ (j : Nat) (r : DR), j < i ∧ recs[j]? = some r ∧ r.d = t ∧ r.e = e := by
  have := look_mem h
  rw [recψ_mem] at this
  rcases this with h | ⟨r, h1, h2⟩
  · simp at h
  · injection h2 with h3 h4
    obtain ⟨j, hj⟩ := List.getElem?_of_mem h1
    rw [List.getElem?_take] at hj
    split at hj
    · rename_i hlt; exact ⟨j, r, hlt, hj, h3.symm, h4.symm⟩
    · cases hj

theorem ahead_none {i : Nat} {t : Nat} (h : look t (recψ (recs.take i) []) = none) : ∀ (j : Nat) (r : DR), j < i → recs[j]? = some r → r.d ≠ t := by
  intro j r hj hr
  refine look_none h (r.d, r.e) ?_
  rw [recψ_mem]
  refine .inr ⟨r, ?_, rfl⟩
  refine List.mem_of_getElem? (i := j) ?_
  rw [List.getElem?_take, if_pos hj]; exact hr

variable {L : Nat → Bool} {m : Nat → Value} {kk : Nat → Nat} {a : Act} {w : World}

/-- A slot that a ready operation looks at: its record is done, or it is none of the region's. -/
theorem RD.slot (G : Good T P N ops s recs) (R : RD s recs L N B0 F0 w0 m kk a w) {i : Nat} {r : DR} (hi : recs[i]? = some r) (hdone : ∀ ed ∈ r.o.after, Region.binds .any ed = true → L ed.on = true) {t : Nat} (ht : t ∈ r.o.looksAt ops) :
    (∀ e, look t (recψ (recs.take i) []) = some e → ∃ (j : Nat) (r' : DR), recs[j]? = some r' ∧ r'.d = t ∧ r'.e = e ∧ L j = true ∧ Entry (Fc F0 B0 (newsD L 0 recs ++ s.σ) m) m kk a w r') ∧
    (look t (recψ (recs.take i) []) = none → (∀ r' ∈ recs, r'.d ≠ t) ∧ ∀ v, look t s.φ = some v → v.rel w (Fc F0 B0 (newsD L 0 recs ++ s.σ) m) m kk (a.tmps.getD t undef)) := by
  refine ⟨fun e he => ?_, fun he => ?_⟩
  · obtain ⟨j, r', hj, hr', hd, hee⟩ := ahead_mem he
    obtain ⟨_, ed, hed, hon, hb⟩ := G.wait i r hi t ht j r' hr' hd
    have hL := hdone ed hed hb
    rw [hon] at hL
    exact ⟨j, r', hr', hd, hee, hL, R.en j r' hr' hL⟩
  · have hno : ∀ r' ∈ recs, r'.d ≠ t := by
      intro r' hr' hd
      obtain ⟨j, hj⟩ := List.getElem?_of_mem hr'
      obtain ⟨hlt, _⟩ := G.wait i r hi t ht j r' hj hd
      exact ahead_none he j r' hlt hj hd
    exact ⟨hno, fun v hv => R.ph t v hv hno⟩

theorem RD.opnd (G : Good T P N ops s recs) (R : RD s recs L N B0 F0 w0 m kk a w) {i : Nat} {r : DR} (hi : recs[i]? = some r) (hdone : ∀ ed ∈ r.o.after, Region.binds .any ed = true → L ed.on = true) {gs : List (Nat × Bool)} (hg : HoldsG gs a) :
    ∀ x ∈ r.o.op.operands, ∀ v, opd (recψ (recs.take i) []) s.φ gs x = some v → v.rel w (Fc F0 B0 (newsD L 0 recs ++ s.σ) m) m kk (a.eval x) := by
  intro x hx v hv
  cases x with
  | tmp t =>
    have ht : t ∈ r.o.looksAt ops := by
      unfold Oper.looksAt
      rw [List.mem_append]
      left
      rw [List.mem_filterMap]
      exact ⟨.tmp t, Array.mem_toList_iff.2 hx, rfl⟩
    obtain ⟨h1, h2⟩ := R.slot G hi hdone ht
    simp only [opd] at hv
    split at hv
    · rename_i e he
      obtain ⟨j, r', _, hd, hee, _, hE⟩ := h1 e he
      cases hs : sfx e.gs gs with
      | false => rw [hs] at hv; cases hv
      | true =>
        rw [hs, cond_true] at hv
        injection hv with hv; subst hv
        subst hee
        rcases hE with ⟨_, _, h3⟩ | ⟨h3, _⟩
        · rw [hd] at h3; exact h3
        · exact absurd (sfx_holds hs hg) h3
    · rename_i he
      exact (h2 he).2 v hv
  | const c => simp only [opd] at hv; exact constA_rel hv
  | func f =>
    simp only [opd, Option.some.injEq] at hv; subst hv
    simp only [AV.rel, TV.rel, Act.eval]
    exact ⟨[], rfl, by simp [TV.relL]⟩
  | global g => simp [opd] at hv

/-- The lookup of an operation, at its operands alone. -/
noncomputable def lkR (o : Oper) (lk : Operand → Option AV) (x : Operand) : Option AV := by
  classical exact if x ∈ o.op.operands then lk x else none
theorem lkR_at {o : Oper} {lk : Operand → Option AV} {x : Operand} (h : x ∈ o.op.operands) : lk x = lkR o lk x := by simp [lkR, h]
theorem lkR_of {o : Oper} {lk : Operand → Option AV} {x : Operand} {v : AV} (h : lkR o lk x = some v) : x ∈ o.op.operands ∧ lk x = some v := by
  unfold lkR at h
  split at h
  · rename_i hx; exact ⟨hx, h⟩
  · cases h

theorem RD.guard (G : Good T P N ops s recs) (R : RD s recs L N B0 F0 w0 m kk a w) {i : Nat} {r : DR} (hi : recs[i]? = some r) (hdone : ∀ ed ∈ r.o.after, Region.binds .any ed = true → L ed.on = true) {j : Nat} {want : Bool} (ho : r.o.guard = some (j, want))
    (h : guardOf ops (recψ (recs.take i) []) s.φ j want = some (r.e.gs, r.e.G)) :
    (Region.wanted r.o (yielded ops a.tmps) = true → HoldsG r.e.gs a ∧ r.e.G) ∧ (Region.wanted r.o (yielded ops a.tmps) = false → ¬ HoldsG r.e.gs a) := by
  generalize hgs : r.e.gs = gs at h ⊢
  generalize hG : r.e.G = Gp at h ⊢
  unfold guardOf at h
  split at h
  · rename_i oj hj
    split at h
    · rename_i g hg
      have ht : g ∈ r.o.looksAt ops := by
        unfold Oper.looksAt
        rw [List.mem_append, ho]
        right
        simp [hj, hg]
      obtain ⟨s1, s2⟩ := R.slot G hi hdone ht
      have hw : Region.wanted r.o (yielded ops a.tmps) = true ↔ a.tmps.getD g undef = .bool want := by
        unfold Region.wanted
        simp only [ho]
        rw [← yielded_iff hj hg]
        simp
      have hnw : Region.wanted r.o (yielded ops a.tmps) = false → a.tmps.getD g undef ≠ .bool want := fun h e => by rw [hw.2 e] at h; cases h
      split at h
      · rename_i e he
        obtain ⟨j', r', _, hd, hee, _, hE⟩ := s1 e he
        subst hee
        split at h
        · rename_i b hb
          simp only [Option.some.injEq, Prod.mk.injEq] at h
          obtain ⟨rfl, rfl⟩ := h
          refine ⟨fun h => ?_, fun h hH => hnw h (hH (g, want) (List.mem_cons_self ..))⟩
          have hval := hw.1 h
          rcases hE with ⟨h1, h2, h3⟩ | ⟨_, h2⟩
          · rw [hb] at h3
            simp only [AV.rel, TV.rel] at h3
            rw [hd] at h3
            rw [h3.1] at hval
            injection hval with hval
            refine ⟨?_, h2, hval⟩
            intro p hp
            rcases List.mem_cons.1 hp with rfl | hp
            · exact hw.1 h
            · exact h1 p hp
          · rw [hd] at h2; rw [h2] at hval; cases hval
        · cases h
      · rename_i he
        obtain ⟨_, s3⟩ := s2 he
        split at h
        · rename_i b hb
          simp only [Option.some.injEq, Prod.mk.injEq] at h
          obtain ⟨rfl, rfl⟩ := h
          refine ⟨fun h => ?_, fun h hH => hnw h (hH (g, want) (List.mem_cons_self ..))⟩
          have hval := hw.1 h
          have h3 := s3 _ hb
          simp only [AV.rel, TV.rel] at h3
          rw [h3.1] at hval
          injection hval with hval
          refine ⟨?_, hval⟩
          intro p hp
          simp only [List.mem_singleton] at hp
          subst hp; exact hw.1 h
        · cases h
    · cases h
  · cases h
end
end
end Go.Proofs.Ytpakohboamfmjab.Pl
