/- Regions that draw their order: the rule, joined. -/
import Derived.Test.YtpakohboamfmjabPlDraw6
namespace Go.Proofs.Ytpakohboamfmjab.Pl
open Go.RowKit

section
variable {P : Program} {T : TyTab} {N : Nat} {B0 : Nat → Prop} {F0 : Nat → Prop} {w0 : World}
variable {ops : Array Oper} {s : St} {recs : List DR}

theorem toF_look {t : Nat} {v : AV} : ∀ {ψ : List (Nat × GE)} {φ : List (Nat × AV)}, look t (toF ψ φ) = some v → (∃ e, look t ψ = some e ∧ ((e.gs = [] ∧ v = e.v) ∨ v = .junk)) ∨ (look t ψ = none ∧ look t φ = some v)
  | [], φ, h => .inr ⟨rfl, h⟩
  | (d, ⟨[], G, x⟩) :: r, φ, h => by
    simp only [toF] at h
    rw [look_cons] at h ⊢
    by_cases e : t = d
    · simp only [e, if_true] at h ⊢
      injection h with h
      exact .inl ⟨_, rfl, .inl ⟨rfl, h.symm⟩⟩
    · simp only [e, if_false] at h ⊢
      exact toF_look h
  | (d, ⟨g :: gs, G, x⟩) :: r, φ, h => by
    simp only [toF] at h
    rw [look_cons] at h ⊢
    by_cases e : t = d
    · simp only [e, if_true] at h ⊢
      injection h with h
      exact .inl ⟨_, rfl, .inr h.symm⟩
    · simp only [e, if_false] at h ⊢
      exact toF_look h

theorem recν_mem : ∀ {recs : List DR} {ν : List (Nat × AO)} {p : Nat × AO}, p ∈ recν recs ν ↔ p ∈ ν ∨ ∃ r ∈ recs, r.al = some p.2 ∧ r.d = p.1
  | [], ν, p => by simp [recν]
  | x :: xs, ν, p => by
    simp only [recν, recν_mem (recs := xs)]
    cases ha : x.al with
    | none =>
      simp only [List.mem_cons]
      constructor
      · rintro (h | ⟨r, h1, h2⟩)
        · exact .inl h
        · exact .inr ⟨r, .inr h1, h2⟩
      · rintro (h | ⟨r, (rfl | h1), h2⟩)
        · exact .inl h
        · rw [ha] at h2; cases h2.1
        · exact .inr ⟨r, h1, h2⟩
    | some o =>
      simp only [List.mem_cons]
      constructor
      · rintro ((rfl | h) | ⟨r, h1, h2⟩)
        · exact .inr ⟨x, .inl rfl, ha, rfl⟩
        · exact .inl h
        · exact .inr ⟨r, .inr h1, h2⟩
      · rintro (h | ⟨r, (rfl | h1), h2, h3⟩)
        · exact .inl (.inr h)
        · left; left
          rw [ha] at h2; injection h2 with h2
          obtain ⟨a, b⟩ := p; simp_all
        · exact .inr ⟨r, h1, h2, h3⟩

theorem freeD_spec {d : Nat} : ∀ {ψ : List (Nat × GE)}, freeD d ψ = true → ∀ p ∈ ψ, p.1 = d ∨ p.2.v.free d = true
  | [], _, p, h => by simp at h
  | (t, e) :: r, h, p, hp => by
    simp only [freeD, Bool.and_eq_true, Bool.or_eq_true] at h
    rcases List.mem_cons.1 hp with rfl | hp
    · exact h.1.imp (fun h => Nat.eq_of_beq_eq_true h) id
    · exact freeD_spec h.2 p hp
theorem freshD_spec {ψ : List (Nat × GE)} : ∀ {ν : List (Nat × AO)}, freshD s ψ ν = true → ∀ p ∈ ν, freeF p.1 s.φ = true ∧ freeS p.1 s.σ = true ∧ freeD p.1 ψ = true
  | [], _, p, h => by simp at h
  | (d, o) :: r, h, p, hp => by
    simp only [freshD, Bool.and_eq_true] at h
    rcases List.mem_cons.1 hp with rfl | hp
    · exact ⟨h.1.1.1, h.1.1.2, h.1.2⟩
    · exact freshD_spec h.2 p hp

theorem recs_uniq (hok : RecsOK T P N ops s recs []) : ∀ (i j : Nat) (r r' : DR), recs[i]? = some r → recs[j]? = some r' → r.d = r'.d → i = j := by
  have key : ∀ (i j : Nat) (r r' : DR), i < j → recs[i]? = some r → recs[j]? = some r' → r.d ≠ r'.d := by
    intro i j r r' hij hi hj
    have := (hok.at_ hj).2.2.1
    refine (clashG_spec this (r.d, r.e) ?_).1
    rw [recψ_mem]
    refine .inr ⟨r, List.mem_of_getElem? (i := i) ?_, rfl⟩
    rw [List.getElem?_take, if_pos hij]; exact hi
  intro i j r r' hi hj he
  rcases Nat.lt_trichotomy i j with h | h | h
  · exact absurd he (key i j r r' h hi hj)
  · exact h
  · exact absurd he.symm (key j i r' r h hj hi)

theorem newsD_none {L : Nat → Bool} (h : ∀ i, L i = false) : ∀ (i : Nat) (rs : List DR), newsD L i rs = []
  | _, [] => rfl
  | i, r :: rs => by
    simp only [newsD, h, newsD_none h (i + 1) rs]
    cases r.al <;> rfl

theorem evDraw_sound (C : Ctx P T) {own : List Nat} {id : Nat} {Q : Exit → St → Prop} (h : evDraw T P own N ops s (Q .normal)) : Ok P N (.region id ops true) Q s := by
  intro B0 F0 w0 m kk a w S
  unfold evDraw at h
  cases hd : drawOK ops (preLen ops.toList) with
  | false => rw [hd] at h; exact h.elim
  | true =>
    rw [hd, cond_true] at h
    have D := drawOK_spec hd
    obtain ⟨recs, rest, hl, hlen, hok, hK⟩ := evD_recs _ _ _ _ h
    cases hf : freshD s (recψ recs []) (recν recs []) with
    | false => rw [hf] at hK; exact hK.elim
    | true =>
      rw [hf, cond_true] at hK
      rw [← hlen] at D
      have hop : ∀ (i : Nat) (r : DR), recs[i]? = some r → ops[i]? = some r.o := by
        intro i r hi
        have hlt : i < recs.length := (List.getElem?_eq_some_iff.1 hi).1
        rw [← Array.getElem?_toList, hl, List.getElem?_append_left (by simpa using hlt)]
        simp [hi]
      have hrest : ∀ j, rest[j]? = ops[recs.length + j]? := by
        intro j
        rw [← Array.getElem?_toList, hl, List.getElem?_append_right (by simp)]
        simp
      have hsize : ops.size = recs.length + rest.length := by
        rw [← Array.length_toList, hl]; simp
      have huniq := recs_uniq hok
      have G : Good T P N ops s recs := by
        refine ⟨hok, huniq, ?_, ?_⟩
        · intro i r o hi ho
          have hin : (r.d, o) ∈ recν recs [] := recν_mem.2 (.inr ⟨r, List.mem_of_getElem? hi, ho, rfl⟩)
          obtain ⟨f1, f2, f3⟩ := freshD_spec hf _ hin
          refine ⟨f1, f2, fun j r' hj hne => ?_⟩
          have hin' : (r'.d, r'.e) ∈ recψ recs [] := recψ_mem.2 (.inr ⟨r', List.mem_of_getElem? hj, rfl⟩)
          rcases freeD_spec f3 _ hin' with h | h
          · exact absurd (huniq j i r' r hj hi h) hne
          · exact h
        · intro i r hi t ht j r' hj hrd
          have hilt : i < recs.length := (List.getElem?_eq_some_iff.1 hi).1
          have hjlt : j < recs.length := (List.getElem?_eq_some_iff.1 hj).1
          have hdst : r'.o.dst = some t := by rw [(hok.at_ hj).1, hrd]
          obtain ⟨ed, hed, hon, hb⟩ := D.pre i r.o (hop i r hi) hilt j r'.o t hjlt (hop j r' hj) hdst ht
          have := D.back i r.o (hop i r hi) ed hed hb
          exact ⟨by omega, ed, hed, hon, hb⟩
      refine wp_region_any C.mixed ?_
      have hbel : Below w.heap.size w { w with drawn := w.drawn + 1 } := ⟨rfl, rfl, rfl, Nat.le_refl _, fun _ _ => rfl⟩
      have S1 := S.grow hbel
      have hL0 : ∀ i, (Array.replicate ops.size false).getD i false = false := by
        intro i
        rw [Array.getD_eq_getD_getElem?, Array.getElem?_replicate]
        split <;> rfl
      have e0 := newsD_none (L := fun i => (Array.replicate ops.size false).getD i false) hL0 0 recs
      refine wpAny_pre C D G rfl hop rest hrest (by omega) ?_ ops.size _ m kk a _ (by simp) (fun k _ => hL0 k) (fun i o _ h => absurd ((hL0 i).symm.trans h) (by simp)) ?_ ?_ (B0 := B0) (F0 := F0) (w0 := w0)
      · intro L m kk a w hall R
        -- the objects by number
        have hlook : ∀ l, look l (recν recs [] ++ s.σ) = look l (newsD L 0 recs ++ s.σ) := by
          intro l
          have huni : ∀ (j1 j2 : Nat) (r1 r2 : DR) (o1 o2 : AO), recs[j1]? = some r1 → recs[j2]? = some r2 → r1.al = some o1 → r2.al = some o2 → r1.d = r2.d → o1 = o2 := by
            intro j1 j2 r1 r2 o1 o2 h1 h2 a1 a2 e
            have := huniq j1 j2 r1 r2 h1 h2 e
            subst this
            rw [h1] at h2; injection h2 with h2; subst h2
            rw [a1] at a2; exact Option.some.inj a2
          have u1 : ∀ p ∈ recν recs [], ∀ q ∈ recν recs [], p.1 = q.1 → p.2 = q.2 := by
            intro p hp q hq e
            rcases recν_mem.1 hp with h | ⟨r1, h1, a1, d1⟩
            · simp at h
            rcases recν_mem.1 hq with h | ⟨r2, h2, a2, d2⟩
            · simp at h
            obtain ⟨j1, h1⟩ := List.getElem?_of_mem h1
            obtain ⟨j2, h2⟩ := List.getElem?_of_mem h2
            exact huni j1 j2 r1 r2 _ _ h1 h2 a1 a2 (by rw [d1, d2, e])
          have same : ∀ p, p ∈ recν recs [] ↔ p ∈ newsD L 0 recs := by
            intro p
            rw [recν_mem, newsD_mem]
            constructor
            · rintro (h | ⟨r, h1, h2, h3⟩)
              · simp at h
              · obtain ⟨j, hj⟩ := List.getElem?_of_mem h1
                exact ⟨j, r, hj, by rw [Nat.zero_add]; exact hall j (List.getElem?_eq_some_iff.1 hj).1, h2, h3⟩
            · rintro ⟨j, r, h1, _, h2, h3⟩
              exact .inr ⟨r, List.mem_of_getElem? h1, h2, h3⟩
          rw [look_append, look_append]
          have : look l (recν recs []) = look l (newsD L 0 recs) := by
            cases hq : look l (recν recs []) with
            | some o =>
              have hin := look_mem hq
              rw [look_of_mem ((same _).1 hin) (fun p hp e => u1 p ((same _).2 hp) _ hin e)]
            | none =>
              cases hr : look l (newsD L 0 recs) with
              | none => rfl
              | some o => exact absurd rfl (look_none hq _ ((same _).2 (look_mem hr)))
          rw [this]
        have hF := Fc_look (F0 := F0) (B0 := B0) (m := m) hlook
        have S' : Sim N B0 F0 w0 ⟨toF (recψ recs []) s.φ, recν recs [] ++ s.σ⟩ m kk a w := by
          refine ⟨R.H.look_eq hlook, ?_, R.df, R.sz⟩
          intro t v hv
          rw [hF]
          rcases toF_look hv with ⟨e, he, hc⟩ | ⟨hn, hv⟩
          · rcases hc with ⟨hg, rfl⟩ | rfl
            · have hin := look_mem he
              rw [recψ_mem] at hin
              rcases hin with h | ⟨r, h1, h2⟩
              · simp at h
              injection h2 with h2 h3
              subst h2; subst h3
              obtain ⟨j, hj⟩ := List.getElem?_of_mem h1
              rcases R.en j r hj (hall j (List.getElem?_eq_some_iff.1 hj).1) with ⟨_, _, h⟩ | ⟨h, _⟩
              · exact h
              · exact absurd (by rw [hg]; exact fun p hp => by simp at hp) h
            · simp only [AV.rel]
          · refine R.ph t v hv (fun r hr e => ?_)
            exact look_none hn (r.d, r.e) (recψ_mem.2 (.inr ⟨r, hr, rfl⟩)) e
        exact evOps_sound C rest [] _ m kk a w S' psi_nil hK
      · have : left recs.length (fun i => (Array.replicate ops.size false).getD i false) = recs.length := by
          unfold left
          rw [List.filter_eq_self.2 (fun i _ => by show (!((Array.replicate ops.size false).getD i false)) = true; rw [hL0 i]; rfl), List.length_range]
        omega
      · refine ⟨?_, ?_, ?_, ?_, S1.df, S1.sz⟩
        · rw [e0]; exact S1.toHeap
        · intro t v hv _
          rw [e0]; exact S1.fr t v hv
        · intro i r _ h
          rw [hL0] at h; cases h
        · intro i r _ h
          rw [hL0] at h; cases h
end
end Go.Proofs.Ytpakohboamfmjab.Pl
