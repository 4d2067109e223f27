/- Calls; all operations without a guard. -/
import Derived.Test.YtpakohboamfmjabPlOp3
namespace Go.Proofs.Ytpakohboamfmjab.Pl
open Go.RowKit

section
variable {P : Program} {T : TyTab} {w : World} {N : Nat} {B0 : Nat → Prop} {F0 : Nat → Prop} {w0 : World} {m : Nat → Value} {kk : Nat → Nat}

theorem plain_rel {w w' : World} {F F' : Nat → Prop} {r : TV} {y : Value} (hp : r.plain = true) (h : r.rel w F y) : r.rel w' F' y := by
  unfold TV.plain at hp
  split at hp
  · simpa only [TV.rel] using h
  · simpa only [TV.rel, TV.relL] using h
  · simpa only [TV.rel, TV.relL] using h
  · simpa only [TV.rel, TV.relL] using h
  · cases hp

theorem callK0_goes {o : Oper} {a : Act} {s : St} {K : St → Prop} (S : Sim N B0 F0 w0 s m kk a w) {g : FuncId} {vs : List AV} {us : List Value}
    (hr : AV.relL w (Fc F0 B0 s.σ m) m kk vs us) (h : callK0 P N o.dst s K g vs) (hrun : (execOp a.eval o).run P w = (callFunc g us.toArray).run P w) : Goes P N B0 F0 w0 o a w K := by
  have hsz := S.newB
  unfold callK0 at h
  obtain ⟨xs, s', hfr, h⟩ := freezeK_spec h
  · obtain ⟨hent, h⟩ := h
    obtain ⟨S', hxr⟩ := S.freeze hfr hr
    have hxr' : TV.relL w (fun b => Fc F0 B0 s'.σ m b ∧ b < w.heap.size) xs us := TV.relL_keep (fun b hb hlt => ⟨⟨hb, hlt⟩, rfl⟩) _ _ hxr
    have hsub : ∀ {w' : World}, Below w.heap.size w w' → ∀ b, ((Fc F0 B0 s'.σ m b ∧ b < w.heap.size) ∨ w.heap.size ≤ b) → Fc F0 B0 s'.σ m b := by
      intro w' _ b hb
      rcases hb with hb | hb
      · exact hb.1
      · refine ⟨.inr (hsz _ hb), fun l o' hl e => ?_⟩
        have := (AO.blk_lt (S'.ob l o' hl) e).2; omega
    rcases h with ⟨r, hpc, h⟩ | ⟨e, k, es, hoc, h⟩
    · have hc := hpc w _ us (fun b hb => hb.2) hxr'
      intro next Q hn
      unfold Oper.wp
      rw [hrun, hent, Oper.upon_enter]
      refine hc.mono ?_
      rintro e w' ⟨v, rfl, hbel, hv⟩
      have hv' : r.rel w' (Fc F0 B0 s'.σ m) v := TV.rel_keep (keeps_mono (hsub hbel)) _ _ hv
      have go : ∀ (s1 : St), Sim N B0 F0 w0 s1 m kk a w' → bindK N o.dst s1 K (.t r) → r.rel w' (Fc F0 B0 s1.σ m) v → next (a.put o.dst v) w' := by
        intro s1 S1 hb hrel
        unfold bindK at hb
        split at hb
        · rename_i d hd
          cases hlt : Nat.blt d N with
          | false => rw [hlt] at hb; exact hb.elim
          | true =>
            rw [hlt, cond_true] at hb
            rw [hd]
            exact hn _ _ _ _ _ hb (S1.put (Nat.le_of_ble_eq_true hlt) (by simpa only [AV.rel] using hrel))
        · exact hb.elim
      cases hp : r.plain with
      | true => rw [hp, cond_true] at h; exact go s (S.grow hbel) h (plain_rel hp hv')
      | false => rw [hp, cond_false] at h; exact go s' (S'.grow hbel) h hv'
    · have hc := hoc w _ us (fun b hb => hb.2) hxr'
      intro next Q hn
      unfold Oper.wp
      rw [hrun, hent, Oper.upon_enter]
      refine hc.mono ?_
      rintro e' w' ⟨v, vs', rfl, hbel, hk0, hown, h1, hrel⟩
      unfold layK at h
      split at h
      · rename_i d hd
        cases hlt : Nat.blt d N with
        | false => rw [hlt] at h; exact h.elim
        | true =>
          rw [hlt, cond_true, killK_eq] at h
          obtain ⟨H', hkp⟩ := heap_row S' d e k es v vs' hk0 hbel hown (TV.relR_keep (keeps_mono fun b hb => ⟨hsub hbel b hb.1, hb.2⟩) _ _ _ hrel) h1
          have S1 : Sim N B0 F0 w0 ⟨killF d s'.φ, (d, .row e k es) :: killS d s'.σ⟩ (upd m d v) (upd kk d k) a w' := by
            refine ⟨H', ?_, S'.df, S'.sz⟩
            intro t u hu
            simp only [look_killF] at hu
            cases hq : look t s'.φ with
            | none => simp [hq] at hu
            | some u' =>
              simp only [hq, Option.map_some, Option.some.injEq] at hu
              subst hu
              exact AV.rel_kill hkp (fun l' h => ⟨upd_ne _ _ h, upd_ne _ _ h⟩) (S'.fr t u' hq)
          rw [hd]
          obtain ⟨A', c', he'⟩ := ownsRow_slice hown
          exact hn _ _ _ _ _ h (S1.put (Nat.le_of_ble_eq_true hlt) (by simp only [AV.rel]; exact ⟨(upd_same _ _ _).symm, A', _, c', by rw [upd_same]; exact he'⟩))
      · exact h.elim

theorem relR_plain {w' : World} {F F' : Nat → Prop} {k : Nat} : ∀ {es : List (List TV)} {us : List Value}, (∀ c ∈ es, ∀ x ∈ c, x.plain = true) → TV.relR w' F k es us → TV.relR w' F' k es us
  | [], us, _, h => by simpa only [TV.relR] using h
  | e :: es, us, hp, h => by
    simp only [TV.relR] at h ⊢
    obtain ⟨u1, u2, h1, h2, h3, h4⟩ := h
    refine ⟨u1, u2, h1, h2, ?_, relR_plain (fun c hc => hp c (by simp [hc])) h4⟩
    have key : ∀ (xs : List TV) (vs : List Value), (∀ x ∈ xs, x.plain = true) → TV.relL w' F xs vs → TV.relL w' F' xs vs := by
      intro xs
      induction xs with
      | nil => intro vs _ h; simpa only [TV.relL] using h
      | cons x xs ih =>
        intro vs hx h
        simp only [TV.relL] at h ⊢
        obtain ⟨u, us', q1, q2, q3⟩ := h
        exact ⟨u, us', q1, plain_rel (hx x (by simp)) q2, ih us' (fun y hy => hx y (by simp [hy])) q3⟩
    exact key e u1 (hp e (by simp)) h3

/-- The state behind a call that was given the row l. -/
theorem Sim.relay {s : St} {a : Act} {w' : World} (S : Sim N B0 F0 w0 s m kk a w) {l : Nat} {e : TypeId} {k : Nat} {es es' : List (List TV)} (hl : look l s.σ = some (.row e k es)) {v' : Value} {vs' : List Value}
    (hkept : Kept (fun g => w.heap.size ≤ g ∨ obk (m l) = some g) w w') (hown : w'.ownsRow 0 e k v' es'.length vs') (hob : ∀ g, obk v' = some g → w.heap.size ≤ g ∨ obk (m l) = some g) (h1 : OneAll vs')
    (hrel : TV.relR w' (Fc F0 B0 ((l, .row e k es') :: killS l s.σ) (upd m l v')) k es' vs') : Sim N B0 F0 w0 ⟨killF l s.φ, (l, .row e k es') :: killS l s.σ⟩ (upd m l v') (upd kk l k) a w' := by
  obtain ⟨us0, hown0, hr0, h10, hk0, hkk0⟩ := S.ob l _ hl
  obtain ⟨H', hkp⟩ := Heap.lay (w' := w') S.toHeap l v' k (.row e k es')
    (fun b hb hne => hkept.block b hb (fun h => h.elim (fun h => absurd hb (Nat.not_lt.2 h)) (hne _ hl))) hkept.size hkept.os hkept.tape hkept.output
    (fun g hg => (hob g hg).elim .inl (fun h => .inr ⟨_, hl, h⟩))
    ⟨vs', ⟨by rw [upd_same]; exact hown, fun g hg => by
      rw [upd_same] at hg
      rcases hob g hg with h | h
      · exact S.newB g h
      · exact (AO.blk_lt (S.ob l _ hl) h).1⟩, hrel, h1, hk0, upd_same _ _ _⟩
  refine ⟨H', ?_, S.df, S.sz⟩
  intro t' u hu
  simp only [look_killF] at hu
  cases hq : look t' s.φ with
  | none => simp [hq] at hu
  | some u' =>
    simp only [hq, Option.map_some, Option.some.injEq] at hu
    subst hu
    exact AV.rel_kill hkp (fun l' h => ⟨upd_ne _ _ h, upd_ne _ _ h⟩) (S.fr t' u' hq)

theorem look_freeze {s s' : St} {vs : List AV} {xs : List TV} (h : s.freeze vs = some (xs, s')) {l : Nat} {e : TypeId} {k : Nat} {es : List (List TV)} (hl : look l s'.σ = some (.row e k es)) : look l s.σ = some (.row e k es) := by
  unfold St.freeze at h
  split at h
  · simp only [Option.some.injEq, Prod.mk.injEq] at h; rw [h.2]; exact hl
  · split at h
    · simp only [Option.some.injEq, Prod.mk.injEq] at h
      obtain ⟨_, rfl⟩ := h
      have hl := (look_seal _ s l).symm.trans hl
      split at hl
      · cases hl
      · cases hq : look l s.σ with
        | none => simp [hq] at hl
        | some o =>
          simp only [hq, Option.map_some, Option.some.injEq] at hl
          cases o with
          | var cs => simp [AO.frz] at hl
          | row e' k' es' => simp only [AO.frz] at hl; rw [hl]
    · cases h

theorem icallK_goes {o : Oper} {a : Act} {s : St} {K : St → Prop} (S : Sim N B0 F0 w0 s m kk a w) {g : FuncId} {l : Nat} {rest : List AV} {us : List Value}
    (hr : AV.relL w (Fc F0 B0 s.σ m) m kk (.sl l :: rest) us) (h : icallK P N o.dst s K g l rest) (hrun : (execOp a.eval o).run P w = (callFunc g us.toArray).run P w) : Goes P N B0 F0 w0 o a w K := by
  have hsz := S.newB
  simp only [AV.relL, AV.rel] at hr
  obtain ⟨u, us', rfl, ⟨rfl, A, n, c, hm⟩, hr⟩ := hr
  unfold icallK at h
  obtain ⟨xs, s', hfr, hent, h⟩ := freezeK_spec h
  obtain ⟨S', hxr⟩ := S.freeze hfr hr
  split at h
  · rename_i e k es hl
    obtain ⟨es', hic, h⟩ := h
    have hl0 := look_freeze hfr hl
    obtain ⟨us0, hown, hr0, h10, hk0, hkk⟩ := S'.ob l _ hl
    have hxr' : TV.relL w (fun b => Fc F0 B0 s'.σ m b ∧ b < w.heap.size) xs us' := TV.relL_keep (fun b hb hlt => ⟨⟨hb, hlt⟩, rfl⟩) _ _ hxr
    have hr0' : TV.relR w (fun b => Fc F0 B0 s'.σ m b ∧ b < w.heap.size) k es us0 := TV.relR_keep (fun b hb hlt => ⟨⟨hb, hlt⟩, rfl⟩) _ _ _ hr0
    have hc := hic w _ (m l) us0 us' (fun b hb => hb.2) hk0 hown.1 h10 hr0' hxr' (fun g hg hF => hF.1.2 l _ hl hg)
    intro next Q hn
    unfold Oper.wp
    rw [hrun, hent, Oper.upon_enter]
    refine hc.mono ?_
    rintro en w' ⟨v', vs', rfl, hkept, hown', hob, h1, hrel⟩
    obtain ⟨A', c', he'⟩ := ownsRow_slice hown'
    have go : ∀ (s1 : St), Sim N B0 F0 w0 s1 m kk a w → look l s1.σ = some (.row e k es) → killK l s1.φ s1.σ (fun φ' σ' => bindK N o.dst ⟨φ', (l, .row e k es') :: σ'⟩ K (.sl l)) →
        TV.relR w' (Fc F0 B0 ((l, .row e k es') :: killS l s1.σ) (upd m l v')) k es' vs' → next (a.put o.dst v') w' := by
      intro s1 S1 hl1 hb hrel1
      rw [killK_eq] at hb
      have S2 := S1.relay hl1 hkept hown' hob h1 hrel1
      unfold bindK at hb
      split at hb
      · rename_i d hd
        cases hlt : Nat.blt d N with
        | false => rw [hlt] at hb; exact hb.elim
        | true =>
          rw [hlt, cond_true] at hb
          rw [hd]
          exact hn _ _ _ _ _ hb (S2.put (Nat.le_of_ble_eq_true hlt) (by simp only [AV.rel]; exact ⟨(upd_same _ _ _).symm, A', _, c', by rw [upd_same]; exact he'⟩))
      · exact hb.elim
    rcases h with ⟨hpl, h⟩ | h
    · exact go s S hl0 h (relR_plain hpl hrel)
    · refine go s' S' hl h (TV.relR_keep (keeps_mono ?_) _ _ _ hrel)
      rintro b ⟨hb, hne⟩
      refine ⟨?_, ?_⟩
      · rcases hb with hb | hb | hb
        · exact hb.1.1
        · exact .inr (hsz b hb)
        · exact .inr (AO.blk_lt (S'.ob l _ hl) hb).1
      · intro l' o' hl'
        rw [look_cons] at hl'
        by_cases hll : l' = l
        · subst hll; rw [upd_same]; exact hne
        · simp only [hll, if_false, look_killS] at hl'
          rw [upd_ne _ _ hll]
          cases hq : look l' s'.σ with
          | none => simp [hq] at hl'
          | some q =>
            rcases hb with hb | hb | hb
            · exact hb.1.2 l' q hq
            · intro e'
              have := (AO.blk_lt (S'.ob l' q hq) e').2; omega
            · rcases S'.dj l' l q _ hq hl hll with h' | h'
              · rw [h']; simp
              · rw [← hb]; exact h'
  · exact h.elim

theorem callK_goes {o : Oper} {a : Act} {s : St} {K : St → Prop} (S : Sim N B0 F0 w0 s m kk a w) {g : FuncId} {vs : List AV} {us : List Value}
    (hr : AV.relL w (Fc F0 B0 s.σ m) m kk vs us) (h : callK P N o.dst s K g vs) (hrun : (execOp a.eval o).run P w = (callFunc g us.toArray).run P w) : Goes P N B0 F0 w0 o a w K := by
  unfold callK at h
  split at h
  · rcases h with h | h
    · exact callK0_goes S hr h hrun
    · exact icallK_goes S hr h hrun
  · exact callK0_goes S hr h hrun

theorem freeze_trees : ∀ (xs : List TV), allT (xs.map .t) = some xs
  | [] => rfl
  | x :: xs => by simp only [List.map_cons, allT, freeze_trees xs]
theorem allT_eq : ∀ {vs : List AV} {xs : List TV}, allT vs = some xs → vs = xs.map .t
  | [], xs, h => by simp only [allT, Option.some.injEq] at h; subst h; rfl
  | v :: vs, xs, h => by
    cases v <;> simp only [allT] at h <;> try (cases h; done)
    split at h
    · rename_i ys hy
      injection h with h; subst h
      rw [allT_eq hy]; rfl
    · cases h
theorem callF_callK {d : Option Tmp} {s : St} {K : St → Prop} {f : FuncId} {vs : List AV} {caps : List TV} (h : callF P N d s K f vs caps) : callK P N d s K f (vs ++ caps.map .t) := by
  unfold callF at h
  split at h
  · rename_i xs hxs
    rw [allT_eq hxs, ← List.map_append]
    generalize xs ++ caps = zs at h
    have h0 : callK0 P N d s K f (zs.map .t) := by
      unfold callK0 freezeK
      simp only [freeze_trees]
      obtain ⟨h1, h2⟩ := h
      refine ⟨h1, ?_⟩
      rcases h2 with ⟨r, h3, h4⟩ | h2
      · exact .inl ⟨r, h3, by cases r.plain <;> exact h4⟩
      · exact .inr h2
    cases zs with
    | nil => exact h0
    | cons z zs => exact h0
  · exact h

theorem evOp_sound (C : Ctx P T) {own : List Nat} {o : Oper} {a : Act} {s : St} {K : St → Prop} (S : Sim N B0 F0 w0 s m kk a w) {lk : Operand → Option AV}
    (hl : ∀ x v, lk x = some v → v.rel w (Fc F0 B0 s.σ m) m kk (a.eval x)) (h : evOp T P own N o lk s K) : Goes P N B0 F0 w0 o a w K := by
  unfold evOp at h
  split at h
  · rename_i t x ho
    split at h
    · rename_i ti v ht hv
      split at h
      · rename_i cs hcs
        cases hb : Nat.beq cs.length ti.size with
        | false => rw [hb] at h; exact h.elim
        | true =>
          rw [hb, cond_true] at h
          split at h
          · rename_i d hd
            exact box_goes S ho ht (hl x v hv) hcs hd h
          · exact h.elim
      · exact h.elim
    · exact h.elim
  · rename_i t ho
    split at h
    · rename_i ti ht
      exact alloc_goes C S ho ht h
    · exact h.elim
  · rename_i t n parts ho
    exact buildSlice_goes C S ho hl h
  · rename_i t n c ho
    split at h
    · rename_i vn vc hvn hvc
      exact makeSlice_goes C S ho (hl n vn hvn) (hl c vc hvc) h
    · exact h.elim
  · rename_i t p x ho
    split at h
    · rename_i ti pa v ht hp hv hd
      exact store_goes C S ho ht (hl p pa hp) (hl x v hv) hd h
    · exact h.elim
  · rename_i as ts ho
    split at h
    · rename_i b x t t' hbx hts
      have hall := lkAll_rel hl _ _ hbx
      have hlen : as.toList.length = 2 := by
        have := AV.relL_length hall; simpa using this
      obtain ⟨bo, xo, has⟩ : ∃ bo xo, as.toList = [bo, xo] := by
        match as.toList, hlen with
        | [p, q], _ => exact ⟨p, q, rfl⟩
      have has' : as = #[bo, xo] := by rw [← Array.toArray_toList (xs := as), has]
      have hts' : ts = #[t, t'] := by rw [← Array.toArray_toList (xs := ts), hts]
      rw [has] at hbx
      simp only [lkAll] at hbx
      split at hbx
      · rename_i v vs hv hvs
        split at hvs
        · rename_i v2 vs2 hv2 hvs2
          simp only [Option.some.injEq] at hvs2 hvs hbx
          subst hvs2; subst hvs
          simp only [List.cons.injEq, and_true] at hbx
          obtain ⟨rfl, rfl⟩ := hbx
          exact append_goes C S ho (by rw [has']; simp) hts' (hl _ _ hv) (hl _ _ hv2) h
        · cases hvs
      · cases hbx
    · exact h.elim
  · rename_i as ts ho
    split at h
    · rename_i x t hx hts hd
      have hall := lkAll_rel hl _ _ hx
      have hlen : as.toList.length = 1 := by
        have := AV.relL_length hall; simpa using this
      obtain ⟨xo, has⟩ : ∃ xo, as.toList = [xo] := by
        match as.toList, hlen with
        | [p], _ => exact ⟨p, rfl⟩
      have has' : as = #[xo] := by rw [← Array.toArray_toList (xs := as), has]
      have hts' : ts = #[t] := by rw [← Array.toArray_toList (xs := ts), hts]
      rw [has] at hall
      simp only [List.map_cons, List.map_nil, AV.relL] at hall
      obtain ⟨_, _, he, hxr, rfl⟩ := hall
      simp only [List.cons.injEq, and_true] at he
      subst he
      exact clear_goes C S ho (by rw [has']; simp) hts' hxr hd h
    · exact h.elim
  · rename_i f as ts ho
    split at h
    · rename_i g caps vs hf hvs
      have hfr := hl f _ hf
      simp only [AV.rel, TV.rel] at hfr
      obtain ⟨us, hfe, hcr⟩ := hfr
      refine callK_goes S (AV.relL_append (lkAll_rel hl _ _ hvs) (relL_map.1 hcr)) (callF_callK h) ?_
      simp only [execOp, ho, resolve, hfe, Deferred.ofValue, Sem.run_bind, Sem.run_pure, Result.andThen_ok, invoke]
      congr 2
      simp
    · rename_i g caps vs hf hvs
      have hfr := hl f _ hf
      simp only [AV.rel] at hfr
      obtain ⟨us, hfe, hcr⟩ := hfr
      refine callK_goes S (AV.relL_append (lkAll_rel hl _ _ hvs) hcr) h ?_
      simp only [execOp, ho, resolve, hfe, Deferred.ofValue, Sem.run_bind, Sem.run_pure, Result.andThen_ok, invoke]
      congr 2
      simp
    · exact h.elim
  · obtain ⟨r, z, hk, hrel, hrun⟩ := yieldK_sound C S.toHeap hl (W := id) (fun _ h => h) h
    exact goes_value hk S hrel hrun
end
end Go.Proofs.Ytpakohboamfmjab.Pl
