/- Regions that draw their order: all orders. -/
import Derived.Test.YtpakohboamfmjabPlDraw4
namespace Go.Proofs.Ytpakohboamfmjab.Pl
open Go.RowKit

section
variable {P : Program} {T : TyTab} {N : Nat} {B0 : Nat → Prop} {F0 : Nat → Prop} {w0 : World}
variable {ops : Array Oper} {s : St} {recs : List DR} {L : Nat → Bool} {m : Nat → Value} {kk : Nat → Nat} {a : Act} {w : World}

/-- A literal of a slice, laid as a tree. -/
theorem lit_goes (C : Ctx P T) {σ : List (Nat × AO)} (H : Heap B0 F0 w0 σ m kk w) (hdf : a.defers = []) {o : Oper} {t : TypeId} {n : Nat} {ps : Array (Nat × Operand)} (ho : o.op = .buildSlice t n ps)
    {lk : Operand → Option AV} (hl : ∀ x v, lk x = some v → v.rel w (Fc F0 B0 σ m) m kk (a.eval x)) {v : AV} (h : bsG T t n ps.toList lk (· = v)) :
    ∃ y w', (execOp a.eval o).run P w = .ok (.value y) w' ∧ Below w.heap.size w w' ∧ v.rel w' (Fc F0 B0 σ m) m kk y := by
  -- by the operation's own law, at a frame with one slot
  let S0 : Sim a.tmps.size B0 F0 w0 ⟨[], σ⟩ m kk a w := ⟨H, fun t v h => by simp [look] at h, hdf, rfl⟩
  have hsz0 := H.newB
  unfold bsG at h
  split at h
  · rename_i e sz by' z q ht
    split at h
    · rename_i ei vs hei hvs
      split at h
      · rename_i xs hxs
        split at h
        · rename_i es hes
          cases hb : seqFrom 0 ps.toList && Nat.beq ps.toList.length n && allLen ei.size es && Nat.ble (n * ei.size) 16777216 && Nat.blt 0 ei.size with
          | false => rw [hb] at h; exact h.elim
          | true =>
            rw [hb, cond_true] at h
            subst h
            obtain ⟨cells', us, hrun, hlen, hrel, h1, hcell, hmax, hpos⟩ := lit_run C ht rfl hei ho (relL_allT (lkAll_rel hl _ _ hvs) hxs) hes hb
            have hbel := below_alloc w (.cells cells' e)
            have hkp : Keeps w (Fc F0 B0 σ m) (w.alloc (.cells cells' e)) (Fc F0 B0 σ m) := Keeps.below hbel (Nat.le_refl _) (fun _ h _ => h)
            refine ⟨_, _, hrun, hbel, ?_⟩
            simp only [AV.rel, TV.rel]
            refine ⟨_, n, us, by rw [hlen], by rw [hlen]; exact Nat.le_refl _, hmax, hpos, TV.relR_keep hkp _ _ _ hrel, h1, ?_⟩
            refine .inr ⟨_, rfl, ⟨.inr (hsz0 _ (Nat.le_refl _)), ?_⟩, hcell⟩
            intro l o' hl' e'
            exact absurd (AO.blk_lt (H.ob l o' hl') e').2 (Nat.lt_irrefl _)
        · exact h.elim
      · exact h.elim
    · exact h.elim
  · exact h.elim

theorem bsG_congr {t : TypeId} {n : Nat} {ps : List (Nat × Operand)} {lk lk' : Operand → Option AV} {K : AV → Prop} (h : ∀ p ∈ ps, lk p.2 = lk' p.2) (hb : bsG T t n ps lk K) : bsG T t n ps lk' K := by
  have : lkAll lk (ps.map (·.2)) = lkAll lk' (ps.map (·.2)) := lkAll_congr (fun x hx => by
    obtain ⟨p, hp, rfl⟩ := List.mem_map.1 hx
    exact h p hp)
  unfold bsG at hb ⊢
  rw [← this]; exact hb

/-- One operation more, that is ready. -/
theorem RD.step (C : Ctx P T) (G : Good T P N ops s recs) (R : RD s recs L N B0 F0 w0 m kk a w) {i : Nat} {r : DR} (hi : recs[i]? = some r) (hL : L i = false) (hdone : ∀ ed ∈ r.o.after, Region.binds .any ed = true → L ed.on = true)
    {next : Act → World → Prop} {Q : Exit → Act → World → Prop} (hn : ∀ a' w' m' kk', RD s recs (setL L i) N B0 F0 w0 m' kk' a' w' → next a' w') :
    if Region.wanted r.o (yielded ops a.tmps) then r.o.wp P a w next Q else next (a.put r.o.dst undef) w := by
  have hok := G.ok.at_ hi
  obtain ⟨hdst, hdN, hcl, hgd, hkind⟩ := hok
  have hop := fun (gs : List (Nat × Bool)) (hg : HoldsG gs a) => R.opnd G hi hdone hg
  have hσ : ∀ l o, look l s.σ = some o → look l (⟨s.φ, newsD L 0 recs ++ s.σ⟩ : St).σ = some o := by
    intro l o hl
    simp only
    rw [look_append]
    cases hq : look l (newsD L 0 recs) with
    | none => exact hl
    | some o' =>
      obtain ⟨j, r', h1, h2, h3, h4⟩ := newsD_mem.1 (look_mem hq)
      have hf := (G.fresh j r' _ h1 h3).2.1
      rw [h4] at hf
      have : ∀ (σ : List (Nat × AO)), freeS l σ = true → look l σ = none := by
        intro σ
        induction σ with
        | nil => intro _; rfl
        | cons p σ ih =>
          obtain ⟨k, o⟩ := p
          intro h
          simp only [freeS, Bool.and_eq_true, Bool.not_eq_true'] at h
          rw [look_cons]
          have : l ≠ k := by intro e; rw [e] at h; simp at h
          simp only [this, if_false]; exact ih h.2
      rw [this s.σ hf] at hl; cases hl
  -- the guard
  have hguard : (Region.wanted r.o (yielded ops a.tmps) = true → HoldsG r.e.gs a ∧ r.e.G) ∧ (Region.wanted r.o (yielded ops a.tmps) = false → ¬ HoldsG r.e.gs a) := by
    cases hg : r.o.guard with
    | none =>
      simp only [hg] at hgd
      have hw : Region.wanted r.o (yielded ops a.tmps) = true := by simp [Region.wanted, hg]
      refine ⟨fun _ => ⟨by rw [hgd.1]; exact fun q hq => by simp at hq, by rw [hgd.2]; trivial⟩, fun h => by rw [hw] at h; cases h⟩
    | some p =>
      obtain ⟨j, want⟩ := p
      simp only [hg] at hgd
      exact R.guard G hi hdone hg hgd.1
  have hself : ∀ q ∈ r.e.gs, q.1 ≠ r.d := by
    cases hg : r.o.guard with
    | none => simp only [hg] at hgd; rw [hgd.1]; intro q hq; simp at hq
    | some p => simp only [hg] at hgd; exact namesG_spec hgd.2
  have hgdone : ∀ q ∈ r.e.gs, (∃ (j : Nat) (r' : DR), recs[j]? = some r' ∧ r'.d = q.1 ∧ L j = true) ∨ ∀ r' ∈ recs, r'.d ≠ q.1 := by
    cases hg : r.o.guard with
    | none => simp only [hg] at hgd; rw [hgd.1]; intro q hq; simp at hq
    | some p =>
      obtain ⟨j, want⟩ := p
      simp only [hg] at hgd
      have hgo := hgd.1
      unfold guardOf at hgo
      split at hgo
      · rename_i oj hj
        split at hgo
        · rename_i g hgdst
          have ht : g ∈ r.o.looksAt ops := by
            unfold Oper.looksAt
            rw [List.mem_append, hg]
            right
            simp [hj, hgdst]
          obtain ⟨s1, s2⟩ := R.slot G hi hdone ht
          split at hgo
          · rename_i e he
            obtain ⟨j', r', h1, h2, h3, h4, _⟩ := s1 e he
            split at hgo
            · simp only [Option.some.injEq, Prod.mk.injEq] at hgo
              rw [← hgo.1]
              intro q hq
              rcases List.mem_cons.1 hq with rfl | hq
              · exact .inl ⟨j', r', h1, h2, h4⟩
              · rw [← h3] at hq; exact R.gd j' r' h1 h4 q hq
            · cases hgo
          · rename_i he
            split at hgo
            · simp only [Option.some.injEq, Prod.mk.injEq] at hgo
              rw [← hgo.1]
              intro q hq
              simp only [List.mem_singleton] at hq
              subst hq
              exact .inr (s2 he).1
            · cases hgo
        · cases hgo
      · cases hgo
  have skip : r.al = none → Region.wanted r.o (yielded ops a.tmps) = false → next (a.put r.o.dst undef) w := by
    intro hal hw
    rw [hdst]
    exact hn _ _ _ _ (R.done G hi hL hal hdN hself hgdone (Below.refl _ _) (.inr ⟨hguard.2 hw, rfl⟩))
  have fin : r.al = none → Region.wanted r.o (yielded ops a.tmps) = true → ∀ {y : Value} {w' : World}, Below w.heap.size w w' → r.e.v.rel w' (Fc F0 B0 (newsD L 0 recs ++ s.σ) m) m kk y → next (a.put r.o.dst y) w' := by
    intro hal hw y w' hb hv
    rw [hdst]
    exact hn _ _ _ _ (R.done G hi hL hal hdN hself hgdone hb (.inl ⟨(hguard.1 hw).1, (hguard.1 hw).2, hv⟩))
  rcases hkind with ⟨t, ti, ho, hg, ht, hv, hal⟩ | ⟨hal, hk⟩
  · have hw : Region.wanted r.o (yielded ops a.tmps) = true := by simp [Region.wanted, hg]
    rw [if_pos hw]
    simp only [hg] at hgd
    obtain ⟨z, hz, hz2, hz3⟩ := C.tok.zero (w := w) ht
    obtain ⟨m', kk', R'⟩ := R.laid G hi hL (t := t) hv hgd.1 (by rw [hgd.2]; trivial) hal hdN hz2 hz3 (fun j r' o' hj ho' => by
      have := G.ok.at_ hj
      rcases this.2.2.2.2 with ⟨_, ti', _, _, _, _, hal'⟩ | ⟨hal', _⟩
      · rw [hal'] at ho'; injection ho' with ho'; exact ⟨_, ho'.symm⟩
      · rw [hal'] at ho'; cases ho')
    unfold Oper.wp
    have hrun : (execOp a.eval r.o).run P w = .ok (.value (.pointer (some ⟨w.heap.size, 0, none⟩))) (w.alloc (.cells z.cells t)) := by
      simp [execOp, ho, Instr.alloc, hz, newVar, newRow]
    rw [hrun, Oper.upon_value, hdst]
    exact hn _ _ _ _ R'
  · rcases hk with ⟨t, n, ps, ho, hg, hbs⟩ | ⟨c, x, y, b, ho, hp, hv⟩ | hev
    · have hw : Region.wanted r.o (yielded ops a.tmps) = true := by simp [Region.wanted, hg]
      rw [if_pos hw]
      have hbs' := bsG_congr (lk' := lkR r.o (opd (recψ (recs.take i) []) s.φ [])) (fun p hp => lkR_at (by rw [ho]; simp only [Op.operands, List.mem_toArray, List.mem_map]; exact ⟨p, hp, rfl⟩)) hbs
      obtain ⟨y, w', hrun, hb, hrel⟩ := lit_goes C R.H R.df ho (fun x v hx => hop [] (fun q hq => by simp at hq) x (lkR_of hx).1 v (lkR_of hx).2) hbs'
      unfold Oper.wp
      rw [hrun, Oper.upon_value]
      exact fin hal hw hb hrel
    · split
      · rename_i hw
        unfold Oper.wp
        rw [pickV_run ho (hguard.1 hw).1 (fun gs' hg' => hop gs' hg') hp, Oper.upon_value]
        refine fin hal hw (Below.refl _ _) ?_
        rw [hv]; exact rel_vb
      · rename_i hw; exact skip hal (by simpa using hw)
    · split
      · rename_i hw
        have hev' := evG_more (s' := ⟨[], newsD L 0 recs ++ s.σ⟩) hσ (evG_congr (lk' := lkR r.o (opd (recψ (recs.take i) []) s.φ r.e.gs)) (fun x hx => lkR_at hx) hev)
        have S0 : Sim N B0 F0 w0 ⟨[], newsD L 0 recs ++ s.σ⟩ m kk a w := ⟨R.H, fun t v h => by simp [look] at h, R.df, R.sz⟩
        refine evG_sound C (hguard.1 hw).2 S0 (fun x v hx => hop _ (hguard.1 hw).1 x (lkR_of hx).1 v (lkR_of hx).2) hev' next Q ?_
        intro v y w' hvv hb hrel
        subst hvv
        exact fin hal hw hb hrel
      · rename_i hw; exact skip hal (by simpa using hw)
end
end Go.Proofs.Ytpakohboamfmjab.Pl
