/- Calls; all operations without a guard. -/
import Derived.Test.YthiaahabnbionaaPlOp3
namespace Go.Proofs.Ythiaahabnbionaa.Pl
open Go.RowKit

section
variable {P : Program} {T : TyTab} {w : World} {N B0 : Nat} {F0 : Nat → Prop} {w0 : World} {m : Nat → Value} {kk : Nat → Nat}

theorem plain_rel {w w' : World} {F F' : Nat → Prop} {r : TV} {y : Value} (hp : r.plain = true) (h : r.rel w F y) : r.rel w' F' y := by
  unfold TV.plain at hp
  split at hp
  · simpa only [TV.rel] using h
  · simpa only [TV.rel, TV.relL] using h
  · simpa only [TV.rel, TV.relL] using h
  · simpa only [TV.rel, TV.relL] using h
  · cases hp

theorem callK_goes {o : Oper} {a : Act} {s : St} {K : St → Prop} (S : Sim N B0 F0 w0 s m kk a w) {g : FuncId} {vs : List AV} {us : List Value}
    (hr : AV.relL w (Fc F0 B0 s.σ m) m kk vs us) (h : callK P N o.dst s K g vs) (hrun : (execOp a.eval o).run P w = (callFunc g us.toArray).run P w) : Goes P N B0 F0 w0 o a w K := by
  have hsz : B0 ≤ w.heap.size := by rw [S.base]; exact S.below.size
  unfold callK at h
  obtain ⟨xs, s', hfr, h⟩ := freezeK_spec h
  · obtain ⟨hent, h⟩ := h
    obtain ⟨S', hxr⟩ := S.freeze hfr hr
    have hxr' : TV.relL w (fun b => Fc F0 B0 s'.σ m b ∧ b < w.heap.size) xs us := TV.relL_keep (fun b hb hlt => ⟨⟨hb, hlt⟩, rfl⟩) _ _ hxr
    have hsub : ∀ {w' : World}, Below w.heap.size w w' → ∀ b, ((Fc F0 B0 s'.σ m b ∧ b < w.heap.size) ∨ w.heap.size ≤ b) → Fc F0 B0 s'.σ m b := by
      intro w' _ b hb
      rcases hb with hb | hb
      · exact hb.1
      · refine ⟨.inr (by omega), fun l o' hl e => ?_⟩
        have := (AO.blk_lt (S'.ob l o' hl) e).2; omega
    rcases h with ⟨r, hpc, h⟩ | ⟨e, k, es, hoc, h⟩
    · have hc := hpc w _ us (fun b hb => hb.2) hxr'
      intro next Q hn
      unfold Oper.wp
      rw [hrun, hent, Oper.upon_enter]
      refine hc.mono ?_
      rintro e w' ⟨v, rfl, hbel, hv⟩
      have hv' : r.rel w' (Fc F0 B0 s'.σ m) v := TV.rel_keep (keeps_mono (hsub hbel)) _ _ hv
      have go : ∀ (s1 : St), Sim N B0 F0 w0 s1 m kk a w' → bindK N o.dst s1 K (.t r) → r.rel w' (Fc F0 B0 s1.σ m) v → next (a.put o.dst v) w' := by
        intro s1 S1 hb hrel
        unfold bindK at hb
        split at hb
        · rename_i d hd
          cases hlt : Nat.blt d N with
          | false => rw [hlt] at hb; exact hb.elim
          | true =>
            rw [hlt, cond_true] at hb
            rw [hd]
            exact hn _ _ _ _ _ hb (S1.put (Nat.le_of_ble_eq_true hlt) (by simpa only [AV.rel] using hrel))
        · exact hb.elim
      cases hp : r.plain with
      | true => rw [hp, cond_true] at h; exact go s (S.grow hbel) h (plain_rel hp hv')
      | false => rw [hp, cond_false] at h; exact go s' (S'.grow hbel) h hv'
    · have hc := hoc w _ us (fun b hb => hb.2) hxr'
      intro next Q hn
      unfold Oper.wp
      rw [hrun, hent, Oper.upon_enter]
      refine hc.mono ?_
      rintro e' w' ⟨v, vs', rfl, hbel, hk0, hown, h1, hrel⟩
      unfold layK at h
      split at h
      · rename_i d hd
        cases hlt : Nat.blt d N with
        | false => rw [hlt] at h; exact h.elim
        | true =>
          rw [hlt, cond_true, killK_eq] at h
          obtain ⟨H', hkp⟩ := heap_row S' d e k es v vs' hk0 hbel hown (TV.relR_keep (keeps_mono fun b hb => ⟨hsub hbel b hb.1, hb.2⟩) _ _ _ hrel) h1
          have S1 : Sim N B0 F0 w0 ⟨killF d s'.φ, (d, .row e k es) :: killS d s'.σ⟩ (upd m d v) (upd kk d k) a w' := by
            refine ⟨H', ?_, S'.df, S'.sz⟩
            intro t u hu
            simp only [look_killF] at hu
            cases hq : look t s'.φ with
            | none => simp [hq] at hu
            | some u' =>
              simp only [hq, Option.map_some, Option.some.injEq] at hu
              subst hu
              exact AV.rel_kill hkp (fun l' h => ⟨upd_ne _ _ h, upd_ne _ _ h⟩) (S'.fr t u' hq)
          rw [hd]
          obtain ⟨A', c', he'⟩ := ownsRow_slice hown
          exact hn _ _ _ _ _ h (S1.put (Nat.le_of_ble_eq_true hlt) (by simp only [AV.rel]; exact ⟨(upd_same _ _ _).symm, A', _, c', by rw [upd_same]; exact he'⟩))
      · exact h.elim

theorem evOp_sound (C : Ctx P T) {own : List Nat} {o : Oper} {a : Act} {s : St} {K : St → Prop} (S : Sim N B0 F0 w0 s m kk a w) {lk : Operand → Option AV}
    (hl : ∀ x v, lk x = some v → v.rel w (Fc F0 B0 s.σ m) m kk (a.eval x)) (h : evOp T P own N o lk s K) : Goes P N B0 F0 w0 o a w K := by
  unfold evOp at h
  split at h
  · rename_i t x ho
    split at h
    · rename_i ti v ht hv
      split at h
      · rename_i cs hcs
        cases hb : Nat.beq cs.length ti.size with
        | false => rw [hb] at h; exact h.elim
        | true =>
          rw [hb, cond_true] at h
          split at h
          · rename_i d hd
            exact box_goes S ho ht (hl x v hv) hcs hd h
          · exact h.elim
      · exact h.elim
    · exact h.elim
  · rename_i t ho
    split at h
    · rename_i ti ht
      exact alloc_goes C S ho ht h
    · exact h.elim
  · rename_i t n parts ho
    exact buildSlice_goes C S ho hl h
  · rename_i t p x ho
    split at h
    · rename_i ti pa v ht hp hv hd
      exact store_goes C S ho ht (hl p pa hp) (hl x v hv) hd h
    · exact h.elim
  · rename_i as ts ho
    split at h
    · rename_i b x t t' hbx hts
      have hall := lkAll_rel hl _ _ hbx
      have hlen : as.toList.length = 2 := by
        have := AV.relL_length hall; simpa using this
      obtain ⟨bo, xo, has⟩ : ∃ bo xo, as.toList = [bo, xo] := by
        match as.toList, hlen with
        | [p, q], _ => exact ⟨p, q, rfl⟩
      have has' : as = #[bo, xo] := by rw [← Array.toArray_toList (xs := as), has]
      have hts' : ts = #[t, t'] := by rw [← Array.toArray_toList (xs := ts), hts]
      rw [has] at hbx
      simp only [lkAll] at hbx
      split at hbx
      · rename_i v vs hv hvs
        split at hvs
        · rename_i v2 vs2 hv2 hvs2
          simp only [Option.some.injEq] at hvs2 hvs hbx
          subst hvs2; subst hvs
          simp only [List.cons.injEq, and_true] at hbx
          obtain ⟨rfl, rfl⟩ := hbx
          exact append_goes C S ho (by rw [has']; simp) hts' (hl _ _ hv) (hl _ _ hv2) h
        · cases hvs
      · cases hbx
    · exact h.elim
  · rename_i f as ts ho
    split at h
    · rename_i g caps vs hf hvs
      have hfr := hl f _ hf
      simp only [AV.rel, TV.rel] at hfr
      obtain ⟨us, hfe, hcr⟩ := hfr
      refine callK_goes S (AV.relL_append (lkAll_rel hl _ _ hvs) (relL_map.1 hcr)) h ?_
      simp only [execOp, ho, resolve, hfe, Deferred.ofValue, Sem.run_bind, Sem.run_pure, Result.andThen_ok, invoke]
      congr 2
      simp
    · rename_i g caps vs hf hvs
      have hfr := hl f _ hf
      simp only [AV.rel] at hfr
      obtain ⟨us, hfe, hcr⟩ := hfr
      refine callK_goes S (AV.relL_append (lkAll_rel hl _ _ hvs) hcr) h ?_
      simp only [execOp, ho, resolve, hfe, Deferred.ofValue, Sem.run_bind, Sem.run_pure, Result.andThen_ok, invoke]
      congr 2
      simp
    · exact h.elim
  · obtain ⟨r, z, hk, hrel, hrun⟩ := yieldK_sound C S.toHeap hl (W := id) (fun _ h => h) h
    exact goes_value hk S hrel hrun
end
end Go.Proofs.Ythiaahabnbionaa.Pl
