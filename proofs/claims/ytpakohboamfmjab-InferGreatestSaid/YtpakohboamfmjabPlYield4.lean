/- What yields a value is carried out so in memory: the rest, and all together. -/
import Derived.Test.YtpakohboamfmjabPlYield3
namespace Go.Proofs.Ytpakohboamfmjab.Pl
open Go.RowKit

section
variable {P : Program} {T : TyTab} {w : World} {F : Nat → Prop} {m : Nat → Value} {kk : Nat → Nat}

theorem unK_sound {op : UnOp} {K : AV → Prop} {x : AV} {u : Value} (h : unK op K x) (hx : x.rel w F m kk u) : ∃ r z, K r ∧ r.rel w F m kk z ∧ (Op.unary op u).run P w = .ok z w := by
  unfold unK at h
  split at h
  · simp only [AV.rel, TV.rel] at hx
    obtain ⟨rfl, _⟩ := hx
    exact ⟨_, _, h, rel_vb, by simp [Op.unary]⟩
  · simp only [AV.rel, TV.rel] at hx
    obtain ⟨rfl, _⟩ := hx
    exact ⟨_, _, h, rel_v rfl, by simp [Op.unary, Op.intArith]⟩
  · exact h.elim

theorem extractK_sound {i : Nat} {K : AV → Prop} {x : AV} {u : Value} (h : extractK i K x) (hx : x.rel w F m kk u) : ∃ r z, K r ∧ r.rel w F m kk z ∧ (Instr.extract u i).run P w = .ok z w := by
  unfold extractK at h
  split at h
  · simp only [AV.rel, TV.rel] at hx
    obtain ⟨us, rfl, hr⟩ := hx
    split at h
    · rename_i y hy
      obtain ⟨z, hz, hzr⟩ := TV.relL_nth hr hy
      exact ⟨_, z, h, hzr, by simp [Instr.extract, hz]⟩
    · exact h.elim
  · simp only [AV.rel] at hx
    obtain ⟨us, rfl, hr⟩ := hx
    split at h
    · rename_i y hy
      obtain ⟨z, hz, hzr⟩ := AV.relL_nth hr hy
      exact ⟨_, z, h, hzr, by simp [Instr.extract, hz]⟩
    · exact h.elim
  · exact h.elim

theorem foldl_put (off : Nat) : ∀ (l : List Value) (j0 : Nat) (cells : Array Value), off + j0 + l.length ≤ cells.size →
    ((l.zipIdx j0).foldl (fun (cs : Array Value) (p : Value × Nat) => cs.setIfInBounds (off + p.2) p.1) cells).toList = cells.toList.take (off + j0) ++ l ++ cells.toList.drop (off + j0 + l.length)
  | [], j0, cells, h => by simp
  | c :: l, j0, cells, h => by
    simp only [List.zipIdx_cons, List.foldl_cons, List.length_cons] at h ⊢
    rw [foldl_put off l (j0 + 1) _ (by simp; omega)]
    have hlt : off + j0 < cells.toList.length := by simp; omega
    simp only [Array.toList_setIfInBounds]
    rw [List.take_set, List.drop_set_of_lt (by omega)]
    have e1 : off + (j0 + 1) = off + j0 + 1 := by omega
    have e2 : off + j0 + 1 + l.length = off + j0 + (l.length + 1) := by omega
    rw [e1, e2, List.take_succ_eq_append_getElem hlt, List.set_append_right _ _ (by simp; omega)]
    simp only [List.length_take]
    rw [Nat.min_eq_left (by omega), Nat.sub_self]
    simp

theorem fillK_sound {fs : List (Nat × TypeId)} {lk : Operand → Option AV} {ρ : Operand → Value} (hT : TOK P T) (hl : ∀ x v, lk x = some v → v.rel w F m kk (ρ x)) (places : List (Nat × Nat))
    (hp : ∀ (i off ft : Nat) (fi : TI), fs[i]? = some (off, ft) → T ft = some fi → places[i]? = some (off, fi.size)) :
    ∀ (parts : List (Nat × Operand)) (cs cs' : List AV) (cells : Array Value), fillK fs T lk parts cs = some cs' → AV.relL w F m kk cs cells.toList → OneAll cells.toList →
      ∃ cells', Instr.fill (fun i => places[i]?) cells (parts.map fun p => (p.1, ρ p.2)) = some cells' ∧ AV.relL w F m kk cs' cells'.toList ∧ OneAll cells'.toList
  | [], cs, cs', cells, h, hr, ho => by
    simp only [fillK, Option.some.injEq] at h; subst h
    exact ⟨cells, rfl, hr, ho⟩
  | (i, x) :: r, cs, cs', cells, h, hr, ho => by
    simp only [fillK] at h
    split at h
    · rename_i off ft v hf hv
      split at h
      · rename_i fi new hfi hnew
        cases hb : Nat.beq new.length fi.size && Nat.ble (off + fi.size) cs.length with
        | false => simp [hb] at h
        | true =>
          simp only [hb, cond_true] at h
          simp only [Bool.and_eq_true] at hb
          have h1 := Nat.eq_of_beq_eq_true hb.1
          have h2 := Nat.le_of_ble_eq_true hb.2
          obtain ⟨hvr, hvo⟩ := rel_cellsOf (hl x v hv) hnew
          have hvl := AV.relL_length hvr
          have hcl := AV.relL_length hr
          have hpl := hp i off ft fi (nth_get hf) hfi
          simp only [Array.length_toList] at hvl hcl
          have hput := foldl_put off (ρ x).cells.toList 0 cells (by simp; omega)
          have hfold : ((ρ x).cells.zipIdx.foldl (fun (cs : Array Value) (p : Value × Nat) => cs.setIfInBounds (off + p.2) p.1) cells).toList = cells.toList.take off ++ (ρ x).cells.toList ++ cells.toList.drop (off + (ρ x).cells.toList.length) := by
            rw [← Array.foldl_toList, Array.toList_zipIdx]; simpa using hput
          have hrel' : AV.relL w F m kk (putAt off new cs) ((ρ x).cells.zipIdx.foldl (fun (cs : Array Value) (p : Value × Nat) => cs.setIfInBounds (off + p.2) p.1) cells).toList := by
            rw [hfold, putAt]
            refine AV.relL_append (AV.relL_append (AV.relL_take _ hr) hvr) ?_
            have : (ρ x).cells.toList.length = new.length := by simpa using hvl
            rw [this]; exact AV.relL_drop _ hr
          have hone : OneAll ((ρ x).cells.zipIdx.foldl (fun (cs : Array Value) (p : Value × Nat) => cs.setIfInBounds (off + p.2) p.1) cells).toList := by
            rw [hfold]
            intro u hu
            simp only [List.mem_append] at hu
            rcases hu with (hu | hu) | hu
            · exact ho u (List.mem_of_mem_take hu)
            · exact hvo u hu
            · exact ho u (List.mem_of_mem_drop hu)
          obtain ⟨cells', hf', hr', ho'⟩ := fillK_sound hT hl places hp r _ cs' _ h hrel' hone
          refine ⟨cells', ?_, hr', ho'⟩
          simp only [List.map_cons, Instr.fill, hpl]
          rw [if_neg (by simp; omega)]
          exact hf'
      · cases h
    · cases h

theorem buildK_sound (hT : TOK P T) {lk : Operand → Option AV} {ρ : Operand → Value} (hl : ∀ x v, lk x = some v → v.rel w F m kk (ρ x)) {t : TypeId} {parts : Array (Nat × Operand)} {K : AV → Prop}
    (h : buildK T lk t parts K) : ∃ r z, K r ∧ r.rel w F m kk z ∧ (Instr.build t (parts.map fun (i, x) => (i, ρ x))).run P w = .ok z w := by
  unfold buildK at h
  split at h
  · rename_i fs sz by' z q ht
    split at h
    · rename_i cs hcs
      obtain ⟨info, d, h1, h2, h3, h4, h5, ⟨zv, hz1, hz2, hz3, hz4⟩, hfs⟩ := hT _ _ ht
      obtain ⟨a, rfl, hfa⟩ := h3
      have hall : ∀ l : List Field, (∀ f ∈ l, ∃ fi, T f.type = some fi) → ∃ places, l.mapM (fun f => (P.info? f.type).map fun i => (f.offset, i.size)) = some places ∧
          ∀ (i off ft : Nat) (fi : TI), (l.map (fun f => (f.offset, f.type)))[i]? = some (off, ft) → T ft = some fi → places[i]? = some (off, fi.size) := by
        intro l
        induction l with
        | nil => intro _; exact ⟨[], rfl, fun i off ft fi h => by simp at h⟩
        | cons f l ih =>
          intro hl
          obtain ⟨places, hp, hq⟩ := ih (fun f hf => hl f (List.mem_cons_of_mem _ hf))
          obtain ⟨fi, hfi⟩ := hl f (List.mem_cons_self ..)
          obtain ⟨inf, _, hinf, _, _, hsz, _⟩ := hT _ _ hfi
          refine ⟨(f.offset, inf.size) :: places, by simp [List.mapM_cons, hinf, hp], ?_⟩
          intro i off ft fi' hi hfi'
          cases i with
          | zero =>
            simp at hi
            obtain ⟨rfl, rfl⟩ := hi
            rw [hfi] at hfi'; injection hfi' with e; subst e
            simp [hsz]
          | succ i => simpa using hq i off ft fi' (by simpa using hi) hfi'
      obtain ⟨places, hp, hq⟩ := hall a.toList (fun f hf => hfs fs rfl (f.offset, f.type) (by rw [hfa]; exact List.mem_map.2 ⟨f, hf, rfl⟩))
      obtain ⟨cells', hf', hr', ho'⟩ := fillK_sound hT hl places (by rw [hfa]; exact hq) parts.toList _ cs zv.cells hcs (relL_map.1 (hz2 w F)) hz3
      refine ⟨_, .agg cells', h, ?_, ?_⟩
      · have := rel_mkAgg hr' ho'
        simpa using this
      · refine run_build w t _ cells' ?_
        unfold Program.built
        simp only [h1, h2, hz1, hp]
        simpa using hf'
    · exact h.elim
  · exact h.elim

theorem lkAll_rel {lk : Operand → Option AV} {ρ : Operand → Value} (hl : ∀ x v, lk x = some v → v.rel w F m kk (ρ x)) : ∀ (xs : List Operand) (vs : List AV), lkAll lk xs = some vs → AV.relL w F m kk vs (xs.map ρ)
  | [], vs, h => by simp only [lkAll, Option.some.injEq] at h; subst h; simp [AV.relL]
  | x :: xs, vs, h => by
    simp only [lkAll] at h
    split at h
    · rename_i v vs' hv hvs
      injection h with h; subst h
      simp only [List.map_cons, AV.relL]
      exact ⟨_, _, rfl, hl x v hv, lkAll_rel hl xs vs' hvs⟩
    · cases h

theorem rel_mkFn {f : FuncId} {cs : List AV} {us : List Value} (h : AV.relL w F m kk cs us) : (mkFn f cs).rel w F m kk (.func (.func f) #[] us.toArray) := by
  unfold mkFn
  split
  · rename_i xs hx
    simp only [AV.rel, TV.rel]
    exact ⟨us, rfl, relL_allT h hx⟩
  · simp only [AV.rel]; exact ⟨us, rfl, h⟩

theorem endsOf_run {lk : Operand → Option AV} {ρ : Operand → Value} (hl : ∀ x v, lk x = some v → v.rel w F m kk (ρ x)) {n cap : Nat} {lo hi : Option Operand} {a b : Int} (h : endsOf lk n lo hi = some (a, b)) (h0 : 0 ≤ a) (h1 : a ≤ b) (h2 : b ≤ n) (hc : n ≤ cap) (s : Bool) :
    (Instr.sliceBounds s n cap (lo.map ρ) (hi.map ρ) none).run P w = .ok (a.toNat, b.toNat, cap) w := by
  unfold endsOf at h
  have hint : ∀ x i k, lk x = some (.t (.v (.int k i))) → ρ x = .int k i := fun x i k hx => by
    have := hl x _ hx; simp only [AV.rel, TV.rel] at this; exact this.1
  split at h
  · rename_i a' b' ha hb
    simp only [Option.some.injEq, Prod.mk.injEq] at h
    obtain ⟨rfl, rfl⟩ := h
    have hlo : (lo = none ∧ a' = 0) ∨ ∃ x k, lo = some x ∧ ρ x = .int k a' := by
      cases lo with
      | none => simp only [Option.some.injEq] at ha; exact .inl ⟨rfl, ha.symm⟩
      | some x =>
        simp only at ha
        split at ha
        · rename_i k i hx; injection ha with ha; subst ha; exact .inr ⟨x, k, rfl, hint x i k hx⟩
        · cases ha
    have hhi : (hi = none ∧ b' = n) ∨ ∃ x k, hi = some x ∧ ρ x = .int k b' := by
      cases hi with
      | none => simp only [Option.some.injEq] at hb; exact .inl ⟨rfl, hb.symm⟩
      | some x =>
        simp only at hb
        split at hb
        · rename_i k i hx; injection hb with hb; subst hb; exact .inr ⟨x, k, rfl, hint x i k hx⟩
        · cases hb
    have hb0 : 0 ≤ b' := by omega
    obtain ⟨bn, rfl⟩ := Int.eq_ofNat_of_zero_le hb0
    obtain ⟨an, rfl⟩ := Int.eq_ofNat_of_zero_le h0
    have hb2 : bn ≤ cap := by omega
    have hab : an ≤ bn := by omega
    have hbn : bn ≤ n := by omega
    rcases hlo with ⟨rfl, ea⟩ | ⟨x, k, rfl, hx⟩ <;> rcases hhi with ⟨rfl, eb⟩ | ⟨y, k', rfl, hy⟩
    · have ea' : an = 0 := by omega
      have eb' : bn = n := by omega
      subst ea'; subst eb'
      simp [Instr.sliceBounds]
    · have ea' : an = 0 := by omega
      subst ea'
      simp [Instr.sliceBounds, hy, Instr.sliceBound, asIntOf, hb2]
    · have eb' : bn = n := by omega
      subst eb'
      simp [Instr.sliceBounds, hx, Instr.sliceBound, asIntOf, hab]
    · simp [Instr.sliceBounds, hx, hy, Instr.sliceBound, asIntOf, hab, hb2]
  · cases h

theorem TV.relR_take {k : Nat} : ∀ (n : Nat) {es : List (List TV)} {us : List Value}, TV.relR w F k es us → TV.relR w F k (es.take n) (us.take (n * k))
  | 0, es, us, h => by simp [TV.relR]
  | n + 1, [], us, h => by simp only [TV.relR] at h; subst h; simp [TV.relR]
  | n + 1, e :: es, us, h => by
    simp only [TV.relR] at h
    obtain ⟨u1, u2, rfl, hk, h0, h1⟩ := h
    have hl := TV.relL_length h0
    simp only [List.take_succ_cons, TV.relR]
    refine ⟨u1, u2.take (n * k), ?_, hk, h0, TV.relR_take n h1⟩
    have : (n + 1) * k = u1.length + n * k := by rw [hl, hk, Nat.add_mul]; omega
    rw [this, List.take_length_add_append]
theorem TV.relR_drop {k : Nat} : ∀ (n : Nat) {es : List (List TV)} {us : List Value}, TV.relR w F k es us → TV.relR w F k (es.drop n) (us.drop (n * k))
  | 0, es, us, h => by simpa using h
  | n + 1, [], us, h => by simp only [TV.relR] at h; subst h; simp [TV.relR]
  | n + 1, e :: es, us, h => by
    simp only [TV.relR] at h
    obtain ⟨u1, u2, rfl, hk, h0, h1⟩ := h
    have hl := TV.relL_length h0
    have : (n + 1) * k = u1.length + n * k := by rw [hl, hk, Nat.add_mul]; omega
    simp only [List.drop_succ_cons]
    rw [this, ← List.drop_drop, List.drop_left]
    exact TV.relR_drop n h1

variable {B0 : Nat → Prop} {F0 : Nat → Prop} {w0 : World} {σ : List (Nat × AO)}
/-- A whole row is a view of itself. -/
theorem sl_sb (H : Heap B0 F0 w0 σ m kk w) {l : Nat} {e : TypeId} {k : Nat} {es : List (List TV)} (hl : look l σ = some (.row e k es)) {y : Value} (h : (AV.sl l).rel w (Fc F0 B0 σ m) m kk y) :
    (AV.sb l 0 es.length).rel w (Fc F0 B0 σ m) m kk y := by
  simp only [AV.rel] at h ⊢
  obtain ⟨rfl, A, n, c, hm⟩ := h
  obtain ⟨us, ho, _⟩ := H.ob l _ hl
  rcases ho.1.2 with ⟨hn, h0⟩ | ⟨g, cap, cur, hv, _⟩
  · exact .inr ⟨hn, hn, trivial, h0⟩
  · exact .inl ⟨g, _, cap, ⟨g, 0, none⟩, hv, by rw [hv]; rfl, rfl, fun _ => by rw [Nat.zero_mul]; rfl, fun _ => rfl, by omega⟩

/-- A part of a view. -/
theorem sb_slice (H : Heap B0 F0 w0 σ m kk w) {l o n : Nat} {e : TypeId} {k : Nat} {es : List (List TV)} (hl : look l σ = some (.row e k es)) {y : Value} (h : (AV.sb l o n).rel w (Fc F0 B0 σ m) m kk y)
    {a b : Int} (h0 : 0 ≤ a) (h1 : a ≤ b) (h2 : b ≤ n) : ∃ A c z, y = .slice A n c ∧ n ≤ c ∧ (AV.sb l (o + a.toNat) (b.toNat - a.toNat)).rel w (Fc F0 B0 σ m) m kk z ∧
      z = .slice (if c = a.toNat then A else A.map (·.add (a.toNat * k))) (b.toNat - a.toNat) (c - a.toNat) := by
  obtain ⟨us, ho, _, _, _, hkk⟩ := H.ob l _ hl
  simp only [AV.rel] at h ⊢
  rcases h with ⟨g, N, c, A, hm, rfl, hA, hA1, hA0, hin⟩ | ⟨hm, rfl, rfl, rfl⟩
  · have hNc : N ≤ c := by
      rcases ho.1.2 with ⟨hn, _⟩ | ⟨g', cap, cur, hv, _, _, hnc, _⟩
      · rw [hm] at hn; simp at hn
      · rw [hm] at hv; simp at hv; omega
    refine ⟨some A, c - o, _, rfl, by omega, .inl ⟨g, N, c, if c - o = a.toNat then A else A.add (a.toNat * k), hm, ?_, ?_, ?_, ?_, by omega⟩, rfl⟩
    · split <;> simp <;> omega
    · split
      · exact hA
      · rw [add_block]; exact hA
    · intro hne
      rw [if_neg (by omega), hA1 (by omega), add_add, hkk, Nat.add_mul]
    · intro hz
      split
      · exact hA0 (by omega)
      · rw [hA0 (by omega), show a.toNat = 0 by omega, Nat.zero_mul]; rfl
  · have ha : a = 0 := by omega
    have hb : b = 0 := by omega
    subst ha; subst hb
    exact ⟨none, 0, _, rfl, Nat.le_refl _, .inr ⟨hm, rfl, rfl, rfl⟩, rfl⟩

theorem sliceK_sound (hT : TOK P T) (H : Heap B0 F0 w0 σ m kk w) {lk : Operand → Option AV} {ρ : Operand → Value} (hl : ∀ x v, lk x = some v → v.rel w (Fc F0 B0 σ m) m kk (ρ x)) {W : Prop → Prop} (hW : ∀ p, W p → p) {t : TypeId} {lo hi mx : Option Operand} {K : AV → Prop} {x : AV} {u : Value}
    (h : sliceK T lk σ W t lo hi mx K x) (hx : x.rel w (Fc F0 B0 σ m) m kk u) : ∃ r z, K r ∧ r.rel w (Fc F0 B0 σ m) m kk z ∧ (Instr.sliceAt t u (lo.map ρ) (hi.map ρ) (mx.map ρ)).run P w = .ok z w := by
  unfold sliceK at h
  split at h
  · rename_i sz by' z q s ht
    obtain ⟨d, hd, hun⟩ := hT.under (w := w) ht
    simp only [Ty.fits] at hd; subst hd
    simp only [AV.rel, TV.rel] at hx
    obtain ⟨rfl, _⟩ := hx
    split at h
    · split at h
      · rename_i a b hab
        obtain ⟨hw, h⟩ := h
        obtain ⟨h0, h1, h2⟩ := hW _ hw
        refine ⟨_, _, h, rel_v rfl, ?_⟩
        have := endsOf_run (P := P) hl hab h0 h1 h2 (Nat.le_refl s.size) false
        simp [Instr.sliceAt, hun, Instr.slice, this]
      · exact h.elim
    · exact h.elim
  · rename_i e sz by' z q k es ht
    obtain ⟨d, hd, hun⟩ := hT.under (w := w) ht
    simp only [Ty.fits] at hd; subst hd
    simp only [AV.rel, TV.rel] at hx
    obtain ⟨A, c, us, rfl, hle, hml, hk0, hr, ho, hm⟩ := hx
    split at h
    · rename_i ei hei
      cases hb : Nat.beq ei.size k with
      | false => simp [hb] at h
      | true =>
        simp only [hb, cond_true] at h
        have hk := Nat.eq_of_beq_eq_true hb
        split at h
        · rename_i a b hab
          obtain ⟨hw, h⟩ := h
          obtain ⟨h0, h1, h2⟩ := hW _ hw
          have hrun := endsOf_run (P := P) hl hab h0 h1 h2 hle true
          refine ⟨_, .slice (if c = a.toNat then A else A.map (·.add (a.toNat * k))) (b.toNat - a.toNat) (c - a.toNat), h, ?_, ?_⟩
          · simp only [AV.rel, TV.rel]
            have hlen : ((es.take b.toNat).drop a.toNat).length = b.toNat - a.toNat := by simp; omega
            refine ⟨_, _, ((us.take (b.toNat * k)).drop (a.toNat * k)), by rw [hlen], by rw [hlen]; omega, by omega, hk0, TV.relR_drop _ (TV.relR_take _ hr), fun u hu => ho u (List.mem_of_mem_take (List.mem_of_mem_drop hu)), ?_⟩
            rcases hm with rfl | ⟨ad, rfl, hF, hc⟩
            · exact .inl (by simp)
            · by_cases hca : c = a.toNat
              · refine .inl ?_
                have : es.length ≤ a.toNat := by omega
                have hl' := TV.relR_length hr
                apply List.drop_eq_nil_of_le
                rw [List.length_take, hl']
                exact Nat.le_trans (Nat.min_le_right _ _) (Nat.mul_le_mul_right k this)
              · refine .inr ⟨ad.add (a.toNat * k), by simp [hca], by rw [add_block]; exact hF, ?_⟩
                exact (hc.take _).drop _
          · have hnb : ∀ (x : Option Operand), (Option.map ρ none) = (none : Option Value) := fun _ => rfl
            simp [Instr.sliceAt, hun, Instr.slice, hrun, hT.size hei, hk]
        · exact h.elim
    · exact h.elim
  · rename_i e sz by' z q l ht
    obtain ⟨d, hd, hun⟩ := hT.under (w := w) ht
    simp only [Ty.fits] at hd; subst hd
    split at h
    · rename_i ei e' k es hei hlk
      cases hb : Nat.beq ei.size k with
      | false => simp [hb] at h
      | true =>
        simp only [hb, cond_true] at h
        have hk := Nat.eq_of_beq_eq_true hb
        split at h
        · rename_i a b hab
          obtain ⟨hw, h⟩ := h
          obtain ⟨h0, h1, h2⟩ := hW _ hw
          obtain ⟨A, c, z, rfl, hle, hrz, hrun⟩ := sb_slice H hlk (sl_sb H hlk hx) h0 h1 h2
          have hrun1 := endsOf_run (P := P) (w := w) hl hab h0 h1 h2 hle true
          refine ⟨_, _, h, hrz, ?_⟩
          simp [Instr.sliceAt, hun, Instr.slice, hrun1, hT.size hei, hk, hrun]
        · exact h.elim
    · exact h.elim
  · rename_i e sz by' z q l o n ht
    obtain ⟨d, hd, hun⟩ := hT.under (w := w) ht
    simp only [Ty.fits] at hd; subst hd
    split at h
    · rename_i ei e' k es hei hlk
      cases hb : Nat.beq ei.size k with
      | false => simp [hb] at h
      | true =>
        simp only [hb, cond_true] at h
        have hk := Nat.eq_of_beq_eq_true hb
        split at h
        · rename_i a b hab
          obtain ⟨hw, h⟩ := h
          obtain ⟨h0, h1, h2⟩ := hW _ hw
          obtain ⟨A, c, z, rfl, hle, hrz, hrun⟩ := sb_slice H hlk (hx) h0 h1 h2
          have hrun1 := endsOf_run (P := P) (w := w) hl hab h0 h1 h2 hle true
          refine ⟨_, _, h, hrz, ?_⟩
          simp [Instr.sliceAt, hun, Instr.slice, hrun1, hT.size hei, hk, hrun]
        · exact h.elim
    · exact h.elim
  · exact h.elim

theorem lenK_sound (hT : TOK P T) (H : Heap B0 F0 w0 σ m kk w) {t ty : TypeId} {K : AV → Prop} {x : AV} {u : Value} (h : lenK T σ t K x) (hx : x.rel w (Fc F0 B0 σ m) m kk u) :
    ∃ r z, K r ∧ r.rel w (Fc F0 B0 σ m) m kk z ∧ (Builtin.len_ #[t] ty #[u]).run P w = .ok z w := by
  unfold lenK at h
  split at h
  · rename_i sz by' z q s ht
    obtain ⟨d, hd, hun⟩ := hT.under (w := w) ht
    simp only [Ty.fits] at hd; subst hd
    simp only [AV.rel, TV.rel] at hx
    obtain ⟨rfl, _⟩ := hx
    exact ⟨_, _, h, rel_vi, by simp [Builtin.len_, hun, goInt]⟩
  · rename_i e sz by' z q k es ht
    obtain ⟨d, hd, hun⟩ := hT.under (w := w) ht
    simp only [Ty.fits] at hd; subst hd
    simp only [AV.rel, TV.rel] at hx
    obtain ⟨A, c, us, rfl, _⟩ := hx
    exact ⟨_, _, h, rel_vi, by simp [Builtin.len_, hun, goInt]⟩
  · rename_i e sz by' z q ht
    obtain ⟨d, hd, hun⟩ := hT.under (w := w) ht
    simp only [Ty.fits] at hd; subst hd
    simp only [AV.rel, TV.rel] at hx
    obtain ⟨rfl, _⟩ := hx
    exact ⟨_, _, h, rel_vi, by simp [Builtin.len_, hun, goInt]⟩
  · rename_i e sz by' z q l ht
    obtain ⟨d, hd, hun⟩ := hT.under (w := w) ht
    simp only [Ty.fits] at hd; subst hd
    simp only [AV.rel] at hx
    obtain ⟨rfl, A, n, c, hm⟩ := hx
    split at h
    · rename_i e' k es hl
      obtain ⟨us, ho, _⟩ := H.ob l _ hl
      have hn : n = es.length := by
        rw [hm] at ho
        rcases ho.1.2 with ⟨hnil, hn⟩ | ⟨g, cap, cur, hv, _⟩
        · injection hnil with _ h2 _; omega
        · injection hv
      subst hn
      exact ⟨_, _, h, rel_vi, by simp [Builtin.len_, hm, hun, goInt]⟩
    · exact h.elim
  · rename_i e sz by' z q l o n ht
    obtain ⟨d, hd, hun⟩ := hT.under (w := w) ht
    simp only [Ty.fits] at hd; subst hd
    simp only [AV.rel] at hx
    rcases hx with ⟨g, N, c, A, _, rfl, _⟩ | ⟨_, rfl, _, rfl⟩
    · exact ⟨_, _, h, rel_vi, by simp [Builtin.len_, hun, goInt]⟩
    · exact ⟨_, _, h, rel_vi, by simp [Builtin.len_, hun, goInt]⟩
  · rename_i n e sz by' z q _ ht
    obtain ⟨d, hd, hun⟩ := hT.under (w := w) ht
    simp only [Ty.fits] at hd; subst hd
    exact ⟨_, _, h, rel_vi, by simp [Builtin.len_, hun, goInt]⟩
  · exact h.elim

theorem maxMinK_sound {K : AV → Prop} {mx : Bool} {xs : List AV} {us : List Value} (h : maxMinK mx K xs) (hx : AV.relL w F m kk xs us) (ts : Array TypeId) (ty : TypeId) :
    ∃ r z, K r ∧ r.rel w F m kk z ∧ ((if mx then Builtin.max_ ts ty us.toArray else Builtin.min_ ts ty us.toArray) : Sem Value).run P w = .ok z w := by
  unfold maxMinK at h
  split at h
  · rename_i k a k' b
    cases hk : sameKind k k' with
    | false => simp [hk] at h
    | true =>
      simp only [hk, cond_true] at h
      have := sameKind_eq hk; subst this
      simp only [AV.relL, AV.rel, TV.rel] at hx
      obtain ⟨_, _, rfl, ⟨rfl, _⟩, _, _, rfl, ⟨rfl, _⟩, rfl⟩ := hx
      refine ⟨_, _, h, rel_v rfl, ?_⟩
      cases mx <;> simp [Builtin.max_, Builtin.min_, Builtin.max2, Builtin.min2]
  · exact h.elim
end
end Go.Proofs.Ytpakohboamfmjab.Pl
