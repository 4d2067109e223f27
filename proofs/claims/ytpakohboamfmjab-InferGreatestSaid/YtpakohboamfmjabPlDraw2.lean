/- Regions that draw their order: soundness. -/
import Derived.Test.YtpakohboamfmjabPlCongr
namespace Go.Proofs.Ytpakohboamfmjab.Pl
open Go.RowKit

structure DR where
  o : Oper
  d : Nat
  e : GE
  al : Option AO

section
variable {P : Program} {T : TyTab} {N : Nat} {B0 : Nat → Prop} {F0 : Nat → Prop} {w0 : World}

/-- What the walk in the text's order shows of one operation; ψ: what stands ahead of it. -/
def RecOK (T : TyTab) (P : Program) (N : Nat) (ops : Array Oper) (s : St) (ψ : List (Nat × GE)) (r : DR) : Prop :=
  r.o.dst = some r.d ∧ r.d < N ∧ clashG r.d ψ = false ∧
  (match r.o.guard with | none => r.e.gs = [] ∧ r.e.G = True | some (j, want) => guardOf ops ψ s.φ j want = some (r.e.gs, r.e.G) ∧ namesG r.d r.e.gs = false) ∧
  ((∃ t ti, r.o.op = .alloc t ∧ r.o.guard = none ∧ T t = some ti ∧ r.e.v = .ptr r.d 0 ∧ r.al = some (.var (ti.zero.map .t))) ∨
   (r.al = none ∧ ((∃ t n ps, r.o.op = .buildSlice t n ps ∧ r.o.guard = none ∧ bsG T t n ps.toList (opd ψ s.φ []) (· = r.e.v)) ∨
      (∃ c a b x, r.o.op = .pick c a b ∧ pickV (opd ψ s.φ) r.e.gs c a b = some x ∧ r.e.v = vb x) ∨
      (evG T P r.e.G r.o (opd ψ s.φ r.e.gs) s (· = r.e.v)))))

def recψ : List DR → List (Nat × GE) → List (Nat × GE)
  | [], ψ => ψ
  | r :: rs, ψ => recψ rs ((r.d, r.e) :: ψ)
def recν : List DR → List (Nat × AO) → List (Nat × AO)
  | [], ν => ν
  | r :: rs, ν => recν rs (match r.al with | some o => (r.d, o) :: ν | none => ν)
def RecsOK (T : TyTab) (P : Program) (N : Nat) (ops : Array Oper) (s : St) : List DR → List (Nat × GE) → Prop
  | [], _ => True
  | r :: rs, ψ => RecOK T P N ops s ψ r ∧ RecsOK T P N ops s rs ((r.d, r.e) :: ψ)

theorem kindD_alloc {op : Op} {t : TypeId} (h : kindD op = .alloc t) : op = .alloc t := by cases op <;> simp [kindD] at h; rw [h]
theorem kindD_lit {op : Op} {t : TypeId} {n : Nat} {ps : Array (Nat × Operand)} (h : kindD op = .lit t n ps) : op = .buildSlice t n ps := by cases op <;> simp [kindD] at h; obtain ⟨rfl, rfl, rfl⟩ := h; rfl
theorem kindD_pick {op : Op} {c a b : Operand} (h : kindD op = .pick c a b) : op = .pick c a b := by cases op <;> simp [kindD] at h; obtain ⟨rfl, rfl, rfl⟩ := h; rfl

theorem bsG_det {t : TypeId} {n : Nat} {ps : List (Nat × Operand)} {lk : Operand → Option AV} {K : AV → Prop} (h : bsG T t n ps lk K) : ∃ v, K v ∧ bsG T t n ps lk (· = v) := by
  unfold bsG at h ⊢
  simp only [Bool.cond_eq_ite] at h ⊢
  (repeat' split at h) <;> first | exact h.elim | exact ⟨_, h, by simp_all⟩

theorem evD_recs {ops : Array Oper} {s : St} : ∀ (l : List Oper) (ψ : List (Nat × GE)) (ν : List (Nat × AO)) (K : List (Nat × GE) → List (Nat × AO) → List Oper → Prop), evD T P N ops s l ψ ν K →
    ∃ recs rest, l = recs.map (·.o) ++ rest ∧ recs.length = preLen l ∧ RecsOK T P N ops s recs ψ ∧ K (recψ recs ψ) (recν recs ν) rest
  | [], ψ, ν, K, h => ⟨[], [], rfl, rfl, trivial, h⟩
  | o :: os, ψ, ν, K, h => by
    simp only [evD] at h
    cases he : effectOp o.op with
    | true =>
      rw [he, cond_true] at h
      exact ⟨[], o :: os, rfl, by simp [preLen, he], trivial, h⟩
    | false =>
      rw [he, cond_false] at h
      have step : ∀ (r : DR) (ν' : List (Nat × AO)), r.o = o → ν' = (match r.al with | some o => (r.d, o) :: ν | none => ν) → RecOK T P N ops s ψ r → evD T P N ops s os ((r.d, r.e) :: ψ) ν' K →
          ∃ recs rest, o :: os = recs.map (·.o) ++ rest ∧ recs.length = preLen (o :: os) ∧ RecsOK T P N ops s recs ψ ∧ K (recψ recs ψ) (recν recs ν) rest := by
        intro r ν' ho hν hr hev
        obtain ⟨recs, rest, h1, h2, h3, h4⟩ := evD_recs os _ _ K hev
        refine ⟨r :: recs, rest, by rw [List.map_cons, List.cons_append, ← h1, ho], by simp [preLen, he, h2], ⟨hr, h3⟩, ?_⟩
        simp only [recψ, recν]
        rw [← hν]; exact h4
      split at h
      · exact h.elim
      · rename_i d hd
        cases hb : Nat.blt d N && !clashG d ψ with
        | false => rw [hb] at h; exact h.elim
        | true =>
          rw [hb, cond_true] at h
          simp only [Bool.and_eq_true, Bool.not_eq_true'] at hb
          have hlt := Nat.le_of_ble_eq_true hb.1
          have hcl := hb.2
          split at h
          · rename_i hg
            split at h
            · rename_i t hk
              split at h
              · rename_i ti ht
                exact step ⟨o, d, ⟨[], True, .ptr d 0⟩, some (.var (ti.zero.map .t))⟩ _ rfl rfl ⟨hd, hlt, hcl, by simp [hg], .inl ⟨t, ti, kindD_alloc hk, hg, ht, rfl, rfl⟩⟩ h
              · exact h.elim
            · rename_i t n ps hk
              obtain ⟨v, h1, h2⟩ := bsG_det h
              exact step ⟨o, d, ⟨[], True, v⟩, none⟩ _ rfl rfl ⟨hd, hlt, hcl, by simp [hg], .inr ⟨rfl, .inl ⟨t, n, ps, kindD_lit hk, hg, h2⟩⟩⟩ h1
            · rename_i c a b hk
              split at h
              · rename_i x hx
                exact step ⟨o, d, ⟨[], True, vb x⟩, none⟩ _ rfl rfl ⟨hd, hlt, hcl, by simp [hg], .inr ⟨rfl, .inr (.inl ⟨c, a, b, x, kindD_pick hk, hx, rfl⟩)⟩⟩ h
              · exact h.elim
            · cases hdt : detOp T o.op with
              | false => rw [hdt] at h; exact h.elim
              | true =>
                rw [hdt, cond_true] at h
                obtain ⟨v, h1, h2⟩ := evG_det hdt h
                exact step ⟨o, d, ⟨[], True, v⟩, none⟩ _ rfl rfl ⟨hd, hlt, hcl, by simp [hg], .inr ⟨rfl, .inr (.inr h2)⟩⟩ h1
          · rename_i j want hg
            split at h
            · rename_i gs G hgo
              cases hng : namesG d gs with
              | true => rw [hng] at h; exact h.elim
              | false =>
                rw [hng, cond_false] at h
                split at h
                · rename_i c a b hk
                  split at h
                  · rename_i x hx
                    exact step ⟨o, d, ⟨gs, G, vb x⟩, none⟩ _ rfl rfl ⟨hd, hlt, hcl, by simp only [hg]; exact ⟨hgo, hng⟩, .inr ⟨rfl, .inr (.inl ⟨c, a, b, x, kindD_pick hk, hx, rfl⟩)⟩⟩ h
                  · exact h.elim
                · cases hdt : detOp T o.op with
                  | false => rw [hdt] at h; exact h.elim
                  | true =>
                    rw [hdt, cond_true] at h
                    obtain ⟨v, h1, h2⟩ := evG_det hdt h
                    exact step ⟨o, d, ⟨gs, G, v⟩, none⟩ _ rfl rfl ⟨hd, hlt, hcl, by simp only [hg]; exact ⟨hgo, hng⟩, .inr ⟨rfl, .inr (.inr h2)⟩⟩ h1
                · exact h.elim
            · exact h.elim

/-- Records by number: what stands ahead of record i. -/
theorem RecsOK.at_ {ops : Array Oper} {s : St} : ∀ {recs : List DR} {ψ : List (Nat × GE)} {i : Nat} {r : DR}, RecsOK T P N ops s recs ψ → recs[i]? = some r → RecOK T P N ops s (recψ (recs.take i) ψ) r
  | [], _, _, _, _, h => by simp at h
  | x :: xs, ψ, 0, r, h, hi => by simp at hi; subst hi; exact h.1
  | x :: xs, ψ, i + 1, r, h, hi => by
    simp only [List.take_succ_cons, recψ]
    exact RecsOK.at_ h.2 (by simpa using hi)

theorem recψ_mem : ∀ {recs : List DR} {ψ : List (Nat × GE)} {p : Nat × GE}, p ∈ recψ recs ψ ↔ p ∈ ψ ∨ ∃ r ∈ recs, p = (r.d, r.e)
  | [], ψ, p => by simp [recψ]
  | x :: xs, ψ, p => by
    simp only [recψ, recψ_mem (recs := xs), List.mem_cons]
    constructor
    · rintro ((h | h) | ⟨r, h1, h2⟩)
      · exact .inr ⟨x, .inl rfl, h⟩
      · exact .inl h
      · exact .inr ⟨r, .inr h1, h2⟩
    · rintro (h | ⟨r, (rfl | h1), h2⟩)
      · exact .inl (.inr h)
      · exact .inl (.inl h2)
      · exact .inr ⟨r, h1, h2⟩

theorem look_none {α : Type} {t : Nat} : ∀ {l : List (Nat × α)}, look t l = none → ∀ p ∈ l, p.1 ≠ t
  | [], _, p, h => by simp at h
  | (k, v) :: r, h, p, hp => by
    rw [look_cons] at h
    by_cases e : t = k
    · simp [e] at h
    · simp only [e, if_false] at h
      rcases List.mem_cons.1 hp with rfl | hp
      · exact fun e' => e e'.symm
      · exact look_none h p hp

theorem clashG_spec {d : Nat} : ∀ {ψ : List (Nat × GE)}, clashG d ψ = false → ∀ p ∈ ψ, p.1 ≠ d ∧ ∀ q ∈ p.2.gs, q.1 ≠ d
  | [], _, p, h => by simp at h
  | (t, e) :: r, h, p, hp => by
    simp only [clashG, Bool.or_eq_false_iff] at h
    rcases List.mem_cons.1 hp with rfl | hp
    · refine ⟨fun e' => ?_, namesG_spec h.1.2⟩
      have h1 := h.1.1
      simp only at e'
      rw [e'] at h1; simp at h1
    · exact clashG_spec h.2 p hp
end
end Go.Proofs.Ytpakohboamfmjab.Pl
