/- Freezing. -/
import Derived.Test.YtpakohboamfmjabPlReg
namespace Go.Proofs.Ytpakohboamfmjab.Pl
open Go.RowKit

theorem mem_spec {l : Nat} : ∀ {ls : List Nat}, mem l ls = true ↔ l ∈ ls
  | [] => by simp [mem]
  | x :: r => by
    simp only [mem, Bool.or_eq_true, List.mem_cons, mem_spec (ls := r)]
    constructor
    · rintro (h | h)
      · exact .inl (Nat.eq_of_beq_eq_true h)
      · exact .inr h
    · rintro (rfl | h)
      · left; simp
      · exact .inr h

theorem look_filterM {α : Type} (ls : List Nat) (t : Nat) : ∀ (σ : List (Nat × α)), look t (σ.filter fun p => !mem p.1 ls) = if mem t ls = true then none else look t σ
  | [] => by simp [look]
  | (k, v) :: r => by
    rw [List.filter_cons]
    cases hk : mem k ls with
    | true =>
      simp only [Bool.not_true, Bool.false_eq_true, if_false]
      rw [look_filterM ls t r, look_cons]
      by_cases h : t = k
      · subst h; simp [hk]
      · simp [h]
    | false =>
      simp only [Bool.not_false, if_true]
      rw [look_cons, look_cons, look_filterM ls t r]
      by_cases h : t = k
      · subst h; simp [hk]
      · simp [h]

section
variable {w : World} {N : Nat} {B0 : Nat → Prop} {F0 : Nat → Prop} {w0 : World} {σ σ' : List (Nat × AO)} {m : Nat → Value} {kk : Nat → Nat}

theorem Fc.mono (h : ∀ l o, look l σ' = some o → ∃ o', look l σ = some o') {b : Nat} (hb : Fc F0 B0 σ m b) : Fc F0 B0 σ' m b :=
  ⟨hb.1, fun l o hl => by obtain ⟨o', ho⟩ := h l o hl; exact hb.2 l o' ho⟩

theorem keeps_mono {F F' : Nat → Prop} (h : ∀ b, F b → F' b) : Keeps w F w F' := fun b hb _ => ⟨h b hb, rfl⟩

theorem mapO_sound {ls : List Nat} {F' : Nat → Prop} {f : AV → Option TV} {r : AV → List Nat}
    (hf : ∀ x y t, f x = some t → (∀ l ∈ r x, mem l ls = true) → x.rel w (Fc F0 B0 σ m) m kk y → t.rel w F' y) :
    ∀ (cs : List AV) (us : List Value) (xs : List TV), mapO f cs = some xs → (∀ l ∈ cs.flatMap r, mem l ls = true) → AV.relL w (Fc F0 B0 σ m) m kk cs us → TV.relL w F' xs us
  | [], us, xs, h, _, hr => by simp only [mapO, Option.some.injEq] at h; subst h; simpa only [TV.relL, AV.relL] using hr
  | c :: cs, us, xs, h, hl, hr => by
    simp only [mapO] at h
    split at h
    · rename_i y ys hy hys
      injection h with h; subst h
      simp only [AV.relL] at hr
      obtain ⟨u, us', rfl, h1, h2⟩ := hr
      simp only [TV.relL]
      exact ⟨u, us', rfl, hf c u y hy (fun l h => hl l (by simp [h])) h1, mapO_sound hf cs us' ys hys (fun l h => hl l (by simp only [List.flatMap_cons, List.mem_append]; exact .inr h)) h2⟩
    · cases h

theorem blk_free (H : Heap B0 F0 w0 σ m kk w) {ls : List Nat} {l g : Nat} {o : AO} (hl : look l σ = some o) (hm : mem l ls = true) (hg : obk (m l) = some g)
    (hsub : ∀ l' o', look l' σ' = some o' → (∃ o'', look l' σ = some o'') ∧ mem l' ls ≠ true) : Fc F0 B0 σ' m g := by
  refine ⟨.inr (AO.blk_lt (H.ob l o hl) hg).1, fun l' o' hl' e => ?_⟩
  obtain ⟨⟨o'', h1⟩, h2⟩ := hsub l' o' hl'
  have hne : l ≠ l' := by intro e; subst e; exact h2 hm
  rcases H.dj l l' o o'' hl h1 hne with h | h
  · rw [h] at hg; cases hg
  · exact h (hg.trans e.symm)

theorem borrow_sound (H : Heap B0 F0 w0 σ m kk w) {ls : List Nat}
    (hsub : ∀ l' o', look l' σ' = some o' → (∃ o'', look l' σ = some o'') ∧ mem l' ls ≠ true) :
    ∀ (n : Nat) (x : AV) (y : Value) (t : TV), borrow σ n x = some t → (∀ l ∈ reach σ n x, mem l ls = true) → x.rel w (Fc F0 B0 σ m) m kk y → t.rel w (Fc F0 B0 σ' m) y := by
  have hk : Keeps w (Fc F0 B0 σ m) w (Fc F0 B0 σ' m) := keeps_mono fun b hb => Fc.mono (fun l o h => (hsub l o h).1) hb
  intro n
  induction n with
  | zero => intro x y t h; simp [borrow] at h
  | succ n ih =>
    intro x y t h hr hx
    cases x with
    | t x =>
      simp only [borrow, Option.some.injEq] at h; subst h
      simp only [AV.rel] at hx
      exact TV.rel_keep hk x y hx
    | ptr l off =>
      simp only [borrow] at h
      split at h
      · rename_i cs hl
        split at h
        · rename_i xs hxs
          injection h with h; subst h
          simp only [AV.rel] at hx
          obtain ⟨g, hm, rfl⟩ := hx
          obtain ⟨g', us, t', hm', hB, hg, hrl, h1⟩ := H.ob l _ hl
          rw [hm] at hm'; simp at hm'; subst hm'
          have hml : mem l ls = true := hr l (by simp [reach, hl])
          have hin : ∀ l' ∈ (cs.drop off).flatMap (reach σ n), mem l' ls = true := by
            intro l' hl'
            refine hr l' ?_
            simp only [reach, hl, List.mem_cons]
            right
            simp only [List.mem_flatMap] at hl' ⊢
            obtain ⟨c, hc, h'⟩ := hl'
            exact ⟨c, List.mem_of_mem_drop hc, h'⟩
          simp only [TV.rel]
          refine ⟨_, us.drop off, rfl, mapO_sound (ls := ls) ih _ _ _ hxs hin (AV.relL_drop _ hrl), fun u hu => h1 u (List.mem_of_mem_drop hu), .inr ⟨?_, (cellsAt_block hg).drop off⟩⟩
          rw [add_block]
          exact blk_free H hl hml (by rw [hm]; rfl) hsub
        · cases h
      · cases h
    | rp l i j =>
      simp only [borrow] at h
      split at h
      · rename_i e k es hl
        injection h with h; subst h
        simp only [AV.rel] at hx
        obtain ⟨g, n', c, hm, rfl⟩ := hx
        have hml : mem l ls = true := hr l (by simp [reach])
        obtain ⟨us, ho, hrr, h1, hk0, hkk⟩ := H.ob l _ hl
        simp only [TV.rel]
        cases he : es[i]? with
        | none =>
          refine ⟨_, [], rfl, ?_, fun u hu => by simp at hu, .inl rfl⟩
          simp [List.getD, he, TV.relL]
        | some c' =>
          have hc' : es.getD i [] = c' := by simp [List.getD, he]
          obtain ⟨hck, hrel⟩ := TV.relR_get hrr he
          rw [hc']
          refine ⟨_, _, rfl, TV.relL_keep hk _ _ (TV.relL_drop j hrel), fun u hu => h1 u (List.mem_of_mem_drop (List.mem_of_mem_take (List.mem_of_mem_drop hu))), .inr ⟨?_, ?_⟩⟩
          · rw [add_block]; exact blk_free H hl hml (by rw [hm]; rfl) hsub
          · have hcell : CellsAt w ⟨g, 0, none⟩ us := ho.1.cells (g := g) (by rw [hm]; rfl)
            rw [hkk, ← add_add]
            exact ((hcell.drop _).take _).drop _
      · cases h
    | sl l =>
      simp only [borrow] at h
      split at h
      · rename_i e k es hl
        injection h with h; subst h
        simp only [AV.rel] at hx
        obtain ⟨rfl, A, n', c, hm⟩ := hx
        have hml : mem l ls = true := hr l (by simp [reach])
        obtain ⟨us, ho, hrr, h1, hk0, hkk⟩ := H.ob l _ hl
        simp only [TV.rel]
        rcases ho.1.2 with ⟨hn, hn0⟩ | ⟨g, cap, cur, hv, hB, hg, hnc, hcm, _⟩
        · refine ⟨none, 0, us, by rw [hn, hn0], by omega, by simp [maxLen], hk0, TV.relR_keep hk k es us hrr, h1, .inl ?_⟩
          have := TV.relR_length hrr
          rw [hn0, Nat.zero_mul] at this
          exact List.eq_nil_of_length_eq_zero this
        · refine ⟨_, cap, us, hv, hnc, hcm, hk0, TV.relR_keep hk k es us hrr, h1, .inr ⟨_, rfl, blk_free H hl hml (by rw [hv]; rfl) hsub, ho.1.cells (g := g) (by rw [hv]; rfl)⟩⟩
      · cases h
    | sb l i cnt =>
      simp only [borrow] at h
      split at h
      · rename_i e k es hl
        cases hb : Nat.ble (i + cnt) es.length with
        | false => rw [hb] at h; cases h
        | true =>
          rw [hb, cond_true] at h
          injection h with h; subst h
          have hle := Nat.le_of_ble_eq_true hb
          have hml : mem l ls = true := hr l (by simp [reach])
          obtain ⟨us, ho, hrr, h1, hk0, hkk⟩ := H.ob l _ hl
          have hlen : ((es.drop i).take cnt).length = cnt := by simp; omega
          simp only [AV.rel] at hx
          simp only [TV.rel, hlen]
          rcases hx with ⟨g, N, c, A, hm, rfl, hAb, hA, hA0, hN⟩ | ⟨hm, rfl, rfl, rfl⟩
          · rcases ho.1.2 with ⟨hn, _⟩ | ⟨g', cap, cur, hv, hB, hg, hnc, hcm, _⟩
            · rw [hm] at hn; simp at hn
            · rw [hm] at hv; simp at hv
              obtain ⟨rfl, rfl, rfl⟩ := hv
              by_cases h0 : cnt = 0
              · subst h0
                refine ⟨_, _, [], rfl, by omega, by omega, hk0, by simp [TV.relR], fun u hu => by simp at hu, .inl rfl⟩
              have hAe := hA h0
              subst hAe
              refine ⟨_, _, (us.drop (i * k)).take (cnt * k), rfl, by omega, by omega, hk0, TV.relR_keep hk k _ _ (TV.relR_take cnt (TV.relR_drop i hrr)), fun u hu => h1 u (List.mem_of_mem_drop (List.mem_of_mem_take hu)), .inr ⟨_, rfl, ?_, ?_⟩⟩
              · rw [add_block]; exact blk_free H hl hml (by rw [hm]; rfl) hsub
              · rw [hkk]
                have hcell : CellsAt w ⟨g, 0, none⟩ us := ho.1.cells (g := g) (by rw [hm]; rfl)
                exact (hcell.drop _).take _
          · refine ⟨none, 0, [], rfl, Nat.le_refl _, by simp [maxLen], hk0, by simp [TV.relR], fun u hu => by simp at hu, .inl rfl⟩
      · cases h
    | agg cs =>
      simp only [borrow] at h
      split at h
      · rename_i xs hxs
        injection h with h; subst h
        simp only [AV.rel] at hx
        obtain ⟨us, rfl, h1, h2⟩ := hx
        simp only [TV.rel]
        exact ⟨us, rfl, mapO_sound (ls := ls) ih _ _ _ hxs (by simpa [reach] using hr) h1, h2⟩
      · cases h
    | tup cs =>
      simp only [borrow] at h
      split at h
      · rename_i xs hxs
        injection h with h; subst h
        simp only [AV.rel] at hx
        obtain ⟨us, rfl, h1⟩ := hx
        simp only [TV.rel]
        exact ⟨us, rfl, mapO_sound (ls := ls) ih _ _ _ hxs (by simpa [reach] using hr) h1⟩
      · cases h
    | fn f cs =>
      simp only [borrow] at h
      split at h
      · rename_i xs hxs
        injection h with h; subst h
        simp only [AV.rel] at hx
        obtain ⟨us, rfl, h1⟩ := hx
        simp only [TV.rel]
        exact ⟨us, rfl, mapO_sound (ls := ls) ih _ _ _ hxs (by simpa [reach] using hr) h1⟩
      · cases h
    | junk => simp [borrow] at h

theorem seal_rel (H : Heap B0 F0 w0 σ m kk w) {ls : List Nat}
    (hsub : ∀ l' o', look l' σ' = some o' → (∃ o'', look l' σ = some o'') ∧ mem l' ls ≠ true) {x : AV} {y : Value} (hx : x.rel w (Fc F0 B0 σ m) m kk y) :
    (x.frz σ ls).rel w (Fc F0 B0 σ' m) m kk y := by
  have hk : Keeps w (Fc F0 B0 σ m) w (Fc F0 B0 σ' m) := keeps_mono fun b hb => Fc.mono (fun l o h => (hsub l o h).1) hb
  unfold AV.frz
  split
  · exact AV.rel_same hk _ y hx
  · generalize h1 : ls.all (fun l => x.free l) = b1
    cases b1 with
    | true => simp only [cond_true]; exact AV.rel_same hk _ y hx
    | false =>
      simp only [cond_false]
      split
      · rename_i t ht
        generalize h2 : (reach σ 8 x).all (fun l => mem l ls) = b2
        cases b2 with
        | true =>
          simp only [cond_true, AV.rel]
          exact borrow_sound H hsub 8 x y t ht (by simpa using h2) hx
        | false => simp [AV.rel]
      · simp [AV.rel]

theorem sealL_rel (H : Heap B0 F0 w0 σ m kk w) {ls : List Nat}
    (hsub : ∀ l' o', look l' σ' = some o' → (∃ o'', look l' σ = some o'') ∧ mem l' ls ≠ true) : ∀ {xs : List AV} {us : List Value}, AV.relL w (Fc F0 B0 σ m) m kk xs us →
    AV.relL w (Fc F0 B0 σ' m) m kk (xs.map (AV.frz σ ls)) us
  | [], us, h => by simpa only [AV.relL, List.map_nil] using h
  | c :: cs, us, h => by
    simp only [AV.relL, List.map_cons] at h ⊢
    obtain ⟨u, us', h1, h2, h3⟩ := h
    exact ⟨u, us', h1, seal_rel H hsub h2, sealL_rel H hsub h3⟩

theorem look_seal (ls : List Nat) (s : St) (l : Nat) : look l (s.frz ls).σ = if mem l ls = true then none else (look l s.σ).map (AO.frz s.σ ls) := by
  unfold St.frz
  simp only
  rw [look_map, look_filterM]
  split <;> rfl

theorem seal_sub (ls : List Nat) (s : St) : ∀ l' o', look l' (s.frz ls).σ = some o' → (∃ o'', look l' s.σ = some o'') ∧ mem l' ls ≠ true := by
  intro l' o' h
  rw [look_seal] at h
  split at h
  · cases h
  · rename_i hn
    cases hq : look l' s.σ with
    | none => simp [hq] at h
    | some o'' => exact ⟨⟨o'', rfl⟩, hn⟩

theorem Sim.frz {s : St} {a : Act} (S : Sim N B0 F0 w0 s m kk a w) (ls : List Nat) : Sim N B0 F0 w0 (s.frz ls) m kk a w := by
  have hsub := seal_sub ls s
  have hk : Keeps w (Fc F0 B0 s.σ m) w (Fc F0 B0 (s.frz ls).σ m) := keeps_mono fun b hb => Fc.mono (fun l o h => (hsub l o h).1) hb
  refine ⟨⟨S.base, S.below, ?_, ?_⟩, ?_, S.df, S.sz⟩
  · intro l o hl
    rw [look_seal] at hl
    split at hl
    · cases hl
    · cases hq : look l s.σ with
      | none => simp [hq] at hl
      | some o' =>
        simp only [hq, Option.map_some, Option.some.injEq] at hl
        subst hl
        have h := S.ob l o' hq
        cases o' with
        | var cs =>
          obtain ⟨g, us, t, h1, h2, h3, h4, h5⟩ := h
          exact ⟨g, us, t, h1, h2, h3, sealL_rel S.toHeap hsub h4, h5⟩
        | row e k es =>
          obtain ⟨us, h1, h2, h3, h4, h5⟩ := h
          exact ⟨us, h1, TV.relR_keep hk k es us h2, h3, h4, h5⟩
  · intro l l' o o' hl hl' hne
    obtain ⟨⟨q, hq⟩, _⟩ := hsub l o hl
    obtain ⟨⟨q', hq'⟩, _⟩ := hsub l' o' hl'
    exact S.dj l l' q q' hq hq' hne
  · intro t v hv
    have : look t (s.frz ls).φ = (look t s.φ).map (AV.frz s.σ ls) := look_map _ _ _
    rw [this] at hv
    cases hq : look t s.φ with
    | none => simp [hq] at hv
    | some v' =>
      simp only [hq, Option.map_some, Option.some.injEq] at hv
      subst hv
      exact seal_rel S.toHeap hsub (S.fr t v' hq)

theorem Sim.freeze {s s' : St} {a : Act} {vs : List AV} {us : List Value} {xs : List TV} (S : Sim N B0 F0 w0 s m kk a w) (h : s.freeze vs = some (xs, s')) (hr : AV.relL w (Fc F0 B0 s.σ m) m kk vs us) :
    Sim N B0 F0 w0 s' m kk a w ∧ TV.relL w (Fc F0 B0 s'.σ m) xs us := by
  unfold St.freeze at h
  split at h
  · rename_i ys hys
    simp only [Option.some.injEq, Prod.mk.injEq] at h
    obtain ⟨rfl, rfl⟩ := h
    exact ⟨S, relL_allT hr hys⟩
  · split at h
    · rename_i ys hys
      simp only [Option.some.injEq, Prod.mk.injEq] at h
      obtain ⟨rfl, rfl⟩ := h
      refine ⟨S.frz _, mapO_sound (ls := vs.flatMap (reach s.σ 8)) (borrow_sound S.toHeap (seal_sub _ s) 8) _ _ _ hys (fun l h => mem_spec.2 h) hr⟩
    · cases h
end
end Go.Proofs.Ytpakohboamfmjab.Pl
