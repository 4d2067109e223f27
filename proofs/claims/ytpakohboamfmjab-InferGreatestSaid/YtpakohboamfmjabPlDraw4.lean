/- Regions that draw their order: one operation more. -/
import Derived.Test.YtpakohboamfmjabPlDraw3
namespace Go.Proofs.Ytpakohboamfmjab.Pl
open Go.RowKit

section
variable {P : Program} {T : TyTab} {N : Nat} {B0 : Nat → Prop} {F0 : Nat → Prop} {w0 : World}
variable {ops : Array Oper} {s : St} {recs : List DR} {L : Nat → Bool} {m : Nat → Value} {kk : Nat → Nat} {a : Act} {w : World}

def setL (L : Nat → Bool) (i : Nat) : Nat → Bool := fun j => if j = i then true else L j

theorem pickV_run {F : Nat → Prop} {o : Oper} {c x y : Operand} (ho : o.op = .pick c x y) {lk : List (Nat × Bool) → Operand → Option AV} {gs : List (Nat × Bool)} (hg : HoldsG gs a)
    (hl : ∀ gs', HoldsG gs' a → ∀ z ∈ o.op.operands, ∀ v, lk gs' z = some v → v.rel w F m kk (a.eval z)) {r : Bool} (h : pickV lk gs c x y = some r) : (execOp a.eval o).run P w = .ok (.value (.bool r)) w := by
  have mc : c ∈ o.op.operands := by rw [ho]; simp [Op.operands]
  have mx : x ∈ o.op.operands := by rw [ho]; simp [Op.operands]
  have my : y ∈ o.op.operands := by rw [ho]; simp [Op.operands]
  unfold pickV at h
  split at h
  · rename_i ct p hp
    have hc := hl gs hg _ mc _ hp
    simp only [AV.rel, TV.rel] at hc
    have hc := hc.1
    have hgp : HoldsG ((ct, p) :: gs) a := by
      intro q hq
      rcases List.mem_cons.1 hq with rfl | hq
      · exact hc
      · exact hg q hq
    have key : ∀ {z : Operand} {v : Bool}, z ∈ o.op.operands → lk ((ct, p) :: gs) z = some (.t (.v (.bool v))) → a.eval z = .bool v := by
      intro z v hm hz
      have := hl _ hgp _ hm _ hz
      simp only [AV.rel, TV.rel] at this
      exact this.1
    have hrun : (execOp a.eval o).run P w = .ok (.value (if p then a.eval x else a.eval y)) w := by
      simp [execOp, ho, hc, asBool]
    rw [hrun]
    congr 2
    cases hb1 : isConstB false y with
    | true =>
      rw [hb1, cond_true] at h
      split at h
      · rename_i v hv
        injection h with h; subst h
        have hy := isConstB_spec hb1
        cases p with
        | true => rw [key mx hv]; rfl
        | false => rw [hy]; rfl
      · cases h
    | false =>
      rw [hb1, cond_false] at h
      cases hb2 : isConstB true x with
      | true =>
        rw [hb2, cond_true] at h
        split at h
        · rename_i v hv
          injection h with h; subst h
          have hx := isConstB_spec hb2
          cases p with
          | true => rw [hx]; rfl
          | false => rw [key my hv]; rfl
        · cases h
      | false =>
        rw [hb2, cond_false] at h
        split at h
        · rename_i v u hv hu
          injection h with h; subst h
          cases p with
          | true => rw [key mx hv]; rfl
          | false => rw [key my hu]; rfl
        · cases h
  · cases h

/-- An operation is done that laid no object. -/
theorem RD.done (G : Good T P N ops s recs) (R : RD s recs L N B0 F0 w0 m kk a w) {i : Nat} {r : DR} (hi : recs[i]? = some r) (hL : L i = false)
    (hal : r.al = none) (hd : r.d < N) (hself : ∀ q ∈ r.e.gs, q.1 ≠ r.d) (hgd : ∀ q ∈ r.e.gs, (∃ (j : Nat) (r' : DR), recs[j]? = some r' ∧ r'.d = q.1 ∧ L j = true) ∨ ∀ r' ∈ recs, r'.d ≠ q.1)
    {y : Value} {w' : World} (hb : Below w.heap.size w w')
    (hE : (HoldsG r.e.gs a ∧ r.e.G ∧ r.e.v.rel w' (Fc F0 B0 (newsD L 0 recs ++ s.σ) m) m kk y) ∨ (¬ HoldsG r.e.gs a ∧ y = undef)) :
    RD s recs (setL L i) N B0 F0 w0 m kk (a.put (some r.d) y) w' := by
  have hn : newsD (setL L i) 0 recs = newsD L 0 recs := by
    refine newsD_same fun j r' hj hne => ?_
    simp only [Nat.zero_add, setL]
    by_cases e : j = i
    · subst e; rw [hi] at hj; injection hj with hj; subst hj; exact absurd hal hne
    · simp [e]
  have hdsz : r.d < a.tmps.size := by rw [R.sz]; exact hd
  have hget : ∀ t, (a.put (some r.d) y).tmps.getD t undef = if t = r.d then y else a.tmps.getD t undef := fun t => by simp only [Act.put]; exact getD_set hdsz
  have hk : Keeps w (Fc F0 B0 (newsD L 0 recs ++ s.σ) m) w' (Fc F0 B0 (newsD L 0 recs ++ s.σ) m) := Keeps.below hb (Nat.le_refl _) (fun _ h _ => h)
  have hmemd : r ∈ recs := List.mem_of_getElem? hi
  have hH : ∀ gs : List (Nat × Bool), (∀ q ∈ gs, q.1 ≠ r.d) → (HoldsG gs (a.put (some r.d) y) ↔ HoldsG gs a) := by
    intro gs hg
    unfold HoldsG
    constructor
    · intro h p hp
      have := h p hp
      rw [hget, if_neg (hg p hp)] at this; exact this
    · intro h p hp
      rw [hget, if_neg (hg p hp)]; exact h p hp
  have hgne : ∀ (j : Nat) (r' : DR), recs[j]? = some r' → L j = true → ∀ q ∈ r'.e.gs, q.1 ≠ r.d := by
    intro j r' hj hLj q hq he
    rcases R.gd j r' hj hLj q hq with ⟨j', r'', h1, h2, h3⟩ | h
    · have := G.uniq j' i r'' r h1 hi (h2.trans he)
      subst this; rw [hL] at h3; cases h3
    · exact h r hmemd he.symm
  refine ⟨by rw [hn]; exact R.H.grow hb, ?_, ?_, ?_, R.df, by simp [Act.put, R.sz]⟩
  · intro t v hv hno
    rw [hn, hget, if_neg (fun e => hno r hmemd e.symm)]
    exact AV.rel_same hk _ _ (R.ph t v hv hno)
  · intro j r' hj hLj
    rw [hn]
    by_cases e : j = i
    · subst e
      rw [hi] at hj; injection hj with hj; subst hj
      unfold Entry
      rw [hH _ hself, hget, if_pos rfl]
      exact hE
    · have hLj' : L j = true := by simpa [setL, e] using hLj
      have hne : r'.d ≠ r.d := fun h => e (G.uniq j i r' r hj hi h)
      unfold Entry
      rw [hH _ (hgne j r' hj hLj'), hget, if_neg hne]
      rcases R.en j r' hj hLj' with ⟨h1, h2, h3⟩ | h1
      · exact .inl ⟨h1, h2, AV.rel_same hk _ _ h3⟩
      · exact .inr h1
  · intro j r' hj hLj q hq
    have up : ((∃ (j : Nat) (r' : DR), recs[j]? = some r' ∧ r'.d = q.1 ∧ L j = true) ∨ ∀ r' ∈ recs, r'.d ≠ q.1) → (∃ (j : Nat) (r' : DR), recs[j]? = some r' ∧ r'.d = q.1 ∧ setL L i j = true) ∨ ∀ r' ∈ recs, r'.d ≠ q.1 := by
      rintro (⟨j', r'', h1, h2, h3⟩ | h)
      · exact .inl ⟨j', r'', h1, h2, by simp only [setL]; split <;> simp [h3]⟩
      · exact .inr h
    by_cases e : j = i
    · subst e
      rw [hi] at hj; injection hj with hj; subst hj
      exact up (hgd q hq)
    · exact up (R.gd j r' hj (by simpa [setL, e] using hLj) q hq)

theorem freeL_spec (l : Nat) : ∀ {φ : List (Nat × AV)}, freeF l φ = true → ∀ t v, look t φ = some v → v.free l = true
  | [], _, t, v, h => by simp [look] at h
  | (k, x) :: r, hf, t, v, h => by
    simp only [freeF, Bool.and_eq_true] at hf
    rw [look_cons] at h
    by_cases e : t = k
    · simp only [e, if_true, Option.some.injEq] at h; subst h; exact hf.1
    · simp only [e, if_false] at h; exact freeL_spec l hf.2 t v h

/-- A new object is laid. -/
theorem RD.laid (G : Good T P N ops s recs) (R : RD s recs L N B0 F0 w0 m kk a w) {i : Nat} {r : DR} (hi : recs[i]? = some r) (hL : L i = false) {t : TypeId} {ti : TI} (hv : r.e.v = .ptr r.d 0)
    (hgs : r.e.gs = []) (hG : r.e.G) (hal : r.al = some (.var (ti.zero.map .t))) (hd : r.d < N) {z : Value} (hz2 : ∀ w F, TV.relL w F ti.zero z.cells.toList) (hz3 : OneAll z.cells.toList)
    (alone : ∀ (j : Nat) (r' : DR) (o' : AO), recs[j]? = some r' → r'.al = some o' → ∃ zs : List TV, o' = .var (zs.map .t)) :
    ∃ m' kk', RD s recs (setL L i) N B0 F0 w0 m' kk' (a.put (some r.d) (.pointer (some ⟨w.heap.size, 0, none⟩))) (w.alloc (.cells z.cells t)) := by
  obtain ⟨f1, f2, f3⟩ := G.fresh i r _ hi hal
  have hmemd : r ∈ recs := List.mem_of_getElem? hi
  -- the elder objects name nothing of it
  have hnews : ∀ p ∈ newsD L 0 recs, p.1 ≠ r.d ∧ ∃ zs : List TV, p.2 = .var (zs.map .t) := by
    intro p hp
    obtain ⟨j, r', h1, h2, h3, h4⟩ := newsD_mem.1 hp
    simp only [Nat.zero_add] at h2
    refine ⟨fun e => ?_, alone j r' _ h1 h3⟩
    have := G.uniq j i r' r h1 hi (h4.trans e)
    subst this; rw [hL] at h2; cases h2
  have hfreeS : ∀ (l : List (Nat × AO)), (∀ p ∈ l, p.1 ≠ r.d ∧ ∃ zs : List TV, p.2 = .var (zs.map .t)) → freeS r.d (l ++ s.σ) = true := by
    intro l
    induction l with
    | nil => intro _; simpa using f2
    | cons p l ih =>
      intro h
      obtain ⟨h1, zs, h2⟩ := h p (List.mem_cons_self ..)
      obtain ⟨pk, po⟩ := p
      simp only at h1 h2
      subst h2
      simp only [List.cons_append, freeS, Bool.and_eq_true, Bool.not_eq_true']
      refine ⟨⟨?_, ?_⟩, ih (fun q hq => h q (List.mem_cons_of_mem _ hq))⟩
      · cases hb : Nat.beq pk r.d with
        | true => exact absurd (Nat.eq_of_beq_eq_true hb) h1
        | false => rfl
      · simp only [AO.free]
        have : ∀ zs : List TV, AV.freeL r.d (zs.map .t) = true := by
          intro zs
          induction zs with
          | nil => rfl
          | cons z zs ih => simp only [List.map_cons, AV.freeL, AV.free, ih]; rfl
        exact this zs
  have hS := hfreeS _ hnews
  have S0 : Sim N B0 F0 w0 ⟨[], newsD L 0 recs ++ s.σ⟩ m kk a w := ⟨R.H, fun t v h => by simp [look] at h, R.df, R.sz⟩
  obtain ⟨H', hk⟩ := heap_new S0 r.d (ti.zero.map .t) z.cells.toList t (relL_map.1 (hz2 _ _)) hz3
  rw [killT] at H' hk
  simp only [killS_free r.d hS] at H' hk
  have e0 : z.cells.toList.toArray = z.cells := by simp
  rw [e0] at H' hk
  -- the objects by number
  have hlook : ∀ l, look l (newsD (setL L i) 0 recs ++ s.σ) = look l ((r.d, .var (ti.zero.map .t)) :: (newsD L 0 recs ++ s.σ)) := by
    intro l
    rw [look_append, look_cons, look_append]
    have huni : ∀ (L' : Nat → Bool), ∀ p ∈ newsD L' 0 recs, ∀ q ∈ newsD L' 0 recs, p.1 = q.1 → p.2 = q.2 := by
      intro L' p hp q hq e
      obtain ⟨j1, r1, a1, a2, a3, a4⟩ := newsD_mem.1 hp
      obtain ⟨j2, r2, b1, b2, b3, b4⟩ := newsD_mem.1 hq
      have := G.uniq j1 j2 r1 r2 a1 b1 (by rw [a4, b4, e])
      subst this
      rw [a1] at b1; injection b1 with b1; subst b1
      rw [a3] at b3; exact Option.some.inj b3
    by_cases e : l = r.d
    · subst e
      simp only [if_true]
      have hin : (r.d, AO.var (ti.zero.map .t)) ∈ newsD (setL L i) 0 recs := newsD_mem.2 ⟨i, r, hi, by simp [setL], hal, rfl⟩
      rw [look_of_mem hin (fun p hp e => (huni _ p hp _ hin e))]
    · simp only [e, if_false]
      have heq : look l (newsD (setL L i) 0 recs) = look l (newsD L 0 recs) := by
        have dir : ∀ (L1 L2 : Nat → Bool) (o : AO), (∀ j, j ≠ i → L1 j = L2 j) → look l (newsD L1 0 recs) = some o → look l (newsD L2 0 recs) = some o := by
          intro L1 L2 o hLL h
          obtain ⟨j, r', h1, h2, h3, h4⟩ := newsD_mem.1 (look_mem h)
          have hji : j ≠ i := by
            intro e'; subst e'
            rw [hi] at h1; injection h1 with h1; subst h1
            exact e h4.symm
          have hin : (l, o) ∈ newsD L2 0 recs := newsD_mem.2 ⟨j, r', h1, by rw [← h2]; simp only [Nat.zero_add]; exact (hLL j hji).symm, h3, h4⟩
          exact look_of_mem hin (fun p hp e => huni _ p hp _ hin e)
        cases h1 : look l (newsD L 0 recs) with
        | some o => exact dir L (setL L i) o (fun j hj => by simp [setL, hj]) h1
        | none =>
          cases h2 : look l (newsD (setL L i) 0 recs) with
          | none => rfl
          | some o => rw [dir (setL L i) L o (fun j hj => by simp [setL, hj]) h2] at h1; cases h1
      rw [heq]
  have hF := Fc_look (F0 := F0) (B0 := B0) (m := upd m r.d (.pointer (some ⟨w.heap.size, 0, none⟩))) hlook
  have hdsz : r.d < a.tmps.size := by rw [R.sz]; exact hd
  have hget : ∀ t y, (a.put (some r.d) y).tmps.getD t undef = if t = r.d then y else a.tmps.getD t undef := fun t y => by simp only [Act.put]; exact getD_set hdsz
  have hm : ∀ l', l' ≠ r.d → upd m r.d (.pointer (some ⟨w.heap.size, 0, none⟩)) l' = m l' ∧ upd kk r.d 0 l' = kk l' := fun l' h => ⟨upd_ne _ _ h, upd_ne _ _ h⟩
  have hHd : ∀ (y : Value) (gs : List (Nat × Bool)), (∀ q ∈ gs, q.1 ≠ r.d) → (HoldsG gs (a.put (some r.d) y) ↔ HoldsG gs a) := by
    intro y gs hg
    unfold HoldsG
    constructor
    · intro h p hp
      have := h p hp
      rw [hget, if_neg (hg p hp)] at this; exact this
    · intro h p hp
      rw [hget, if_neg (hg p hp)]; exact h p hp
  refine ⟨_, _, ⟨H'.look_eq hlook, ?_, ?_, ?_, R.df, by simp [Act.put, R.sz]⟩⟩
  · intro t' v hv' hno
    rw [hF, hget, if_neg (fun e => hno r hmemd e.symm)]
    exact AV.rel_keep hk hm v _ (freeL_spec r.d f1 t' v hv') (R.ph t' v hv' hno)
  · intro j r' hj hLj
    rw [hF]
    by_cases e : j = i
    · subst e
      rw [hi] at hj; injection hj with hj; subst hj
      unfold Entry
      rw [hget, if_pos rfl, hgs, hv]
      refine .inl ⟨fun q hq => by simp at hq, hG, ?_⟩
      simp only [AV.rel]
      exact ⟨w.heap.size, upd_same _ _ _, by simp [Addr.add]⟩
    · have hLj' : L j = true := by simpa [setL, e] using hLj
      have hne : r'.d ≠ r.d := fun h => e (G.uniq j i r' r hj hi h)
      have hgne : ∀ q ∈ r'.e.gs, q.1 ≠ r.d := by
        intro q hq he
        rcases R.gd j r' hj hLj' q hq with ⟨j', r'', h1, h2, h3⟩ | h
        · have := G.uniq j' i r'' r h1 hi (h2.trans he)
          subst this; rw [hL] at h3; cases h3
        · exact h r hmemd he.symm
      unfold Entry
      rw [hHd _ _ hgne, hget, if_neg hne]
      rcases R.en j r' hj hLj' with ⟨h1, h2, h3⟩ | h1
      · exact .inl ⟨h1, h2, AV.rel_keep hk hm _ _ (f3 j r' hj e) h3⟩
      · exact .inr h1
  · intro j r' hj hLj q hq
    by_cases e : j = i
    · subst e
      rw [hi] at hj; injection hj with hj; subst hj
      rw [hgs] at hq; simp at hq
    · rcases R.gd j r' hj (by simpa [setL, e] using hLj) q hq with ⟨j', r'', h1, h2, h3⟩ | h
      · exact .inl ⟨j', r'', h1, h2, by simp only [setL]; split <;> simp [h3]⟩
      · exact .inr h
end
end Go.Proofs.Ytpakohboamfmjab.Pl
