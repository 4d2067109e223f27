/- What an operation does to a state: soundness. -/
import Derived.Test.YthiaahabnbionaaPlOp
namespace Go.Proofs.Ythiaahabnbionaa.Pl
open Go.RowKit

section
variable {P : Program} {T : TyTab} {w : World} {N B0 : Nat} {F0 : Nat → Prop} {w0 : World} {m : Nat → Value} {kk : Nat → Nat}

theorem TOK.zero (hT : TOK P T) {t : TypeId} {i : TI} (ht : T t = some i) : ∃ z, (zeroValue t).run P w = .ok z w ∧ (∀ w F, TV.relL w F i.zero z.cells.toList) ∧ OneAll z.cells.toList := by
  obtain ⟨info, d, h1, h2, h3, h4, h5, ⟨z, hz1, hz2, hz3, hz4⟩, hfs⟩ := hT _ _ ht
  exact ⟨z, by simp [zeroValue, typeInfo, h1, hz1], hz2, hz3⟩

theorem below_alloc (w : World) (o : Obj) : Below w.heap.size w (w.alloc o) := (Below.refl _ _).alloc (Nat.le_refl _) o

theorem box_goes {o : Oper} {a : Act} {s : St} {K : St → Prop} (S : Sim N B0 F0 w0 s m kk a w) {t : TypeId} {x : Operand} (ho : o.op = .box t x) {ti : TI} (_ht : T t = some ti) {v : AV} {cs : List AV}
    (hv : v.rel w (Fc F0 B0 s.σ m) m kk (a.eval x)) (hcs : cellsOf v = some cs) {d : Tmp} (hd : o.dst = some d) (h : layK N o.dst s K (.var (cs.map (AV.kill d))) (.ptr · 0)) : Goes P N B0 F0 w0 o a w K := by
  obtain ⟨hr, h1⟩ := rel_cellsOf hv hcs
  have hnew := heap_new S d cs (a.eval x).cells.toList t hr h1
  refine goes_lay (x := .pointer (some ⟨w.heap.size, 0, none⟩)) (k := 0) (y := .pointer (some ⟨w.heap.size, 0, none⟩)) h S ?_ ?_ ?_ (w' := w.alloc (.cells (a.eval x).cells t))
  · simp [execOp, ho, Instr.box, newVar, newRow]
  · intro d' hd'; rw [hd] at hd'; injection hd' with e; subst e; simpa using hnew
  · intro d' hd'
    simp only [AV.rel]
    exact ⟨w.heap.size, upd_same _ _ _, by simp [Addr.add]⟩

theorem alloc_goes (C : Ctx P T) {o : Oper} {a : Act} {s : St} {K : St → Prop} (S : Sim N B0 F0 w0 s m kk a w) {t : TypeId} (ho : o.op = .alloc t) {ti : TI} (ht : T t = some ti)
    (h : layK N o.dst s K (.var (ti.zero.map .t)) (.ptr · 0)) : Goes P N B0 F0 w0 o a w K := by
  obtain ⟨z, hz, hz2, hz3⟩ := C.tok.zero (w := w) ht
  refine goes_lay (x := .pointer (some ⟨w.heap.size, 0, none⟩)) (k := 0) (y := .pointer (some ⟨w.heap.size, 0, none⟩)) h S ?_ ?_ ?_ (w' := w.alloc (.cells z.cells t))
  · simp [execOp, ho, Instr.alloc, hz, newVar, newRow]
  · intro d hd
    have hnew := heap_new S d (ti.zero.map .t) z.cells.toList t (relL_map.1 (hz2 _ _)) hz3
    rw [killT] at hnew
    simpa using hnew
  · intro d' hd'
    simp only [AV.rel]
    exact ⟨w.heap.size, upd_same _ _ _, by simp [Addr.add]⟩

/-! #### Stores -/
theorem run_store_block {g off : Nat} {t tt : TypeId} {us vs : List Value} {v : Value} {ti : TI} (hT : TOK P T) (ht : T tt = some ti) (hg : w.heap[g]? = some (.cells us.toArray t (0, 0)))
    (hv : v.cells.toList = vs) (hl : vs.length = ti.size) (hfit : off + vs.length ≤ us.length) (h1 : OneAll vs) :
    (Instr.storeAt tt (.pointer (some ((⟨g, 0, none⟩ : Addr).add off))) v).run P w = .ok () (w.setRow g (us.take off ++ vs ++ us.drop (off + vs.length)).toArray) := by
  have hst := run_storeCells_at P g off t vs 0 us.toArray w hg (by simpa using hfit) h1
  have hadd : (⟨g, 0, none⟩ : Addr).add off = ⟨g, off, none⟩ := by unfold Addr.add; split <;> simp_all
  have hsz : v.cells.size = ti.size := by rw [← hl, ← hv]; simp
  simp only [Nat.add_zero] at hst
  simp [Instr.storeAt, Instr.sureAddr, storeVar, hT.size ht, hsz, hadd, hv, hst]

/-- A block of an object's own is written: what the object holds turns, nothing else. -/
theorem Sim.write {s : St} {a : Act} (S : Sim N B0 F0 w0 s m kk a w) {l g : Nat} {o o' : AO} (hl : look l s.σ = some o) (hg : obk (m l) = some g) (us : Array Value) (σ' : List (Nat × AO)) (hσ : σ' = (l, o') :: s.σ)
    (ho : o'.rel (w.setRow g us) (Fc F0 B0 s.σ m) m kk B0 l) : Sim N B0 F0 w0 ⟨s.φ, σ'⟩ m kk a (w.setRow g us) := by
  subst hσ
  have hlook : ∀ l' q, look l' ((l, o') :: s.σ) = some q → ∃ q', look l' s.σ = some q' := by
    intro l' q h
    rw [look_cons] at h
    by_cases e : l' = l
    · subst e; exact ⟨o, hl⟩
    · simp only [e, if_false] at h; exact ⟨q, h⟩
  have hlook' : ∀ l' q', look l' s.σ = some q' → ∃ q, look l' ((l, o') :: s.σ) = some q := by
    intro l' q h
    rw [look_cons]
    by_cases e : l' = l
    · simp [e]
    · simp only [e, if_false]; exact ⟨q, h⟩
  have hF : ∀ b, Fc F0 B0 ((l, o') :: s.σ) m b ↔ Fc F0 B0 s.σ m b := fun b =>
    ⟨fun h => Fc.mono (fun l' q hq => hlook' l' q hq) h, fun h => Fc.mono (fun l' q hq => hlook l' q hq) h⟩
  have hk : Keeps w (Fc F0 B0 s.σ m) (w.setRow g us) (Fc F0 B0 ((l, o') :: s.σ) m) := by
    intro b hb hlt
    refine ⟨(hF b).2 hb, setRow_other w g b us ?_⟩
    intro e; subst e; exact hb.2 l o hl hg
  have hgB := AO.blk_lt (S.ob l o hl) hg
  refine ⟨⟨S.base, ?_, ?_, ?_⟩, ?_, S.df, S.sz⟩
  · exact S.below.trans ⟨rfl, rfl, rfl, by simp, fun b hb => setRow_other w g b us (by omega)⟩
  · intro l' q hq
    rw [look_cons] at hq
    by_cases e : l' = l
    · subst e
      simp only [if_true, Option.some.injEq] at hq; subst hq
      have hk' : Keeps (w.setRow g us) (Fc F0 B0 s.σ m) (w.setRow g us) (Fc F0 B0 ((l', o') :: s.σ) m) := keeps_mono fun b hb => (hF b).2 hb
      exact AO.rel_keep hk' (fun _ _ => rfl) ho
    · simp only [e, if_false] at hq
      refine AO.rel_keep hk (fun b hb => setRow_other w g b us ?_) (S.ob l' q hq)
      intro e'; subst e'
      rcases S.dj l' l q o hq hl e with h | h
      · rw [h] at hb; cases hb
      · exact h (hb.trans hg.symm)
  · intro l1 l2 o1 o2 h1 h2 hne
    obtain ⟨q1, hq1⟩ := hlook l1 o1 h1
    obtain ⟨q2, hq2⟩ := hlook l2 o2 h2
    exact S.dj l1 l2 q1 q2 hq1 hq2 hne
  · intro t v hv
    exact AV.rel_same hk v _ (S.fr t v hv)

theorem keep_set {s : St} {a : Act} (_S : Sim N B0 F0 w0 s m kk a w) {l g : Nat} {o : AO} (hl : look l s.σ = some o) (hg : obk (m l) = some g) (us : Array Value) :
    Keeps w (Fc F0 B0 s.σ m) (w.setRow g us) (Fc F0 B0 s.σ m) := by
  intro b hb hlt
  refine ⟨hb, setRow_other w g b us ?_⟩
  intro e; subst e; exact hb.2 l o hl hg

theorem goes_skip {o : Oper} {a : Act} {K : St → Prop} {w' : World} {s' : St} (hd : o.dst = none) (h : K s') (S : Sim N B0 F0 w0 s' m kk a w')
    (hrun : (execOp a.eval o).run P w = .ok .skip w') : Goes P N B0 F0 w0 o a w K := by
  intro next Q hn
  unfold Oper.wp
  rw [hrun, Oper.upon_skip, hd]
  exact hn _ _ _ _ _ h S

theorem relR_set {F : Nat → Prop} {k : Nat} : ∀ {i : Nat} {es : List (List TV)} {us : List Value} {c : List TV} {vs : List Value}, TV.relR w F k es us → es[i]? = some c → ∀ {c' : List TV}, c'.length = k → TV.relL w F c' vs →
    TV.relR w F k (es.set i c') (us.take (i * k) ++ vs ++ us.drop (i * k + k))
  | _, [], us, c, vs, _, h, _, _, _ => by simp at h
  | 0, e :: es, us, c, vs, h, hc, c', hc', hv => by
    simp only [TV.relR] at h
    obtain ⟨u1, u2, rfl, hk, h0, h1⟩ := h
    have hl := TV.relL_length h0
    simp only [List.set_cons_zero, TV.relR, Nat.zero_mul, List.take_zero, List.nil_append, Nat.zero_add]
    refine ⟨vs, u2, ?_, hc', hv, h1⟩
    rw [← hk, ← hl, List.drop_left]
  | i + 1, e :: es, us, c, vs, h, hc, c', hc', hv => by
    simp only [TV.relR] at h
    obtain ⟨u1, u2, rfl, hk, h0, h1⟩ := h
    have hl := TV.relL_length h0
    simp only [List.set_cons_succ, TV.relR]
    refine ⟨u1, _, ?_, hk, h0, relR_set h1 (by simpa using hc) hc' hv⟩
    have e1 : (i + 1) * k = u1.length + i * k := by rw [hl, hk, Nat.add_mul]; omega
    rw [e1, List.take_length_add_append, Nat.add_assoc, ← List.drop_drop, List.drop_left]
    simp [List.append_assoc]

theorem rel_cellsT (m : Nat → Value) (kk : Nat → Nat) {F : Nat → Prop} {x : TV} {y : Value} {cs : List TV} (h : x.rel w F y) (hx : cellsT x = some cs) : TV.relL w F cs y.cells.toList ∧ OneAll y.cells.toList := by
  have h' : (AV.t x).rel w F m kk y := by simpa only [AV.rel] using h
  cases x with
  | agg xs =>
    simp only [cellsT, Option.some.injEq] at hx; subst hx
    obtain ⟨h1, h2⟩ := rel_cellsOf h' (by rfl)
    exact ⟨relL_map.2 h1, h2⟩
  | tup _ => simp [cellsT] at hx
  | v z => simp only [cellsT, Option.some.injEq] at hx; subst hx; obtain ⟨h1, h2⟩ := rel_cellsOf h' (by rfl); exact ⟨relL_map.2 h1, h2⟩
  | sl k es => simp only [cellsT, Option.some.injEq] at hx; subst hx; obtain ⟨h1, h2⟩ := rel_cellsOf h' (by rfl); exact ⟨relL_map.2 h1, h2⟩
  | ptr z => simp only [cellsT, Option.some.injEq] at hx; subst hx; obtain ⟨h1, h2⟩ := rel_cellsOf h' (by rfl); exact ⟨relL_map.2 h1, h2⟩
  | fn z z' => simp only [cellsT, Option.some.injEq] at hx; subst hx; obtain ⟨h1, h2⟩ := rel_cellsOf h' (by rfl); exact ⟨relL_map.2 h1, h2⟩
  | iface z z' => simp only [cellsT, Option.some.injEq] at hx; subst hx; obtain ⟨h1, h2⟩ := rel_cellsOf h' (by rfl); exact ⟨relL_map.2 h1, h2⟩

theorem take_drop_mid {α : Type} (us : List α) (n k j q : Nat) (h : j + q ≤ k) (hk : n + k ≤ us.length) (vs : List α) (hv : vs.length = q) :
    us.take n ++ (((us.drop n).take k).take j ++ vs ++ ((us.drop n).take k).drop (j + q)) ++ us.drop (n + k) = us.take (n + j) ++ vs ++ us.drop (n + j + q) := by
  have e1 : us.take (n + j) = us.take n ++ ((us.drop n).take k).take j := by
    rw [List.take_take, Nat.min_eq_left (by omega), ← List.take_add]
  have e2 : ((us.drop n).take k).drop (j + q) ++ us.drop (n + k) = us.drop (n + j + q) := by
    have : us.drop (n + k) = (us.drop n).drop k := by rw [List.drop_drop]
    rw [this]
    have h3 : (us.drop n).drop (j + q) = ((us.drop n).take k).drop (j + q) ++ (us.drop n).drop k := by
      have h4 : us.drop n = (us.drop n).take k ++ (us.drop n).drop k := (List.take_append_drop k _).symm
      have h5 : ((us.drop n).take k).length = k := by simp; omega
      conv => lhs; rw [h4]
      rw [List.drop_append_of_le_length (by omega)]
    rw [← h3, List.drop_drop]; congr 1; omega
  rw [e1, ← e2]; simp [List.append_assoc]

theorem store_goes (C : Ctx P T) {o : Oper} {a : Act} {s : St} {K : St → Prop} (S : Sim N B0 F0 w0 s m kk a w) {t : TypeId} {p x : Operand} (ho : o.op = .store t p x) {ti : TI} (ht : T t = some ti) {pa v : AV}
    (hp : pa.rel w (Fc F0 B0 s.σ m) m kk (a.eval p)) (hv : v.rel w (Fc F0 B0 s.σ m) m kk (a.eval x)) (hd : o.dst = none) (h : storeK ti s K pa v) : Goes P N B0 F0 w0 o a w K := by
  unfold storeK at h
  split at h
  · rename_i l off
    split at h
    · rename_i cs new hl hnew
      cases hb : Nat.beq new.length ti.size && Nat.ble (off + new.length) cs.length with
      | false => simp [hb] at h
      | true =>
        simp only [hb, cond_true] at h
        simp only [Bool.and_eq_true] at hb
        have hb1 := Nat.eq_of_beq_eq_true hb.1
        have hb2 := Nat.le_of_ble_eq_true hb.2
        simp only [AV.rel] at hp
        obtain ⟨g, hm, hpe⟩ := hp
        obtain ⟨g', us, t', hm', hB, hg, hr, h1⟩ := S.ob l _ hl
        rw [hm] at hm'; simp at hm'; subst hm'
        obtain ⟨hvr, hv1⟩ := rel_cellsOf hv hnew
        have hvl := AV.relL_length hvr
        have hcl := AV.relL_length hr
        have hgo : obk (m l) = some g := by rw [hm]; rfl
        have hk := keep_set S hl hgo (us.take off ++ (a.eval x).cells.toList ++ us.drop (off + (a.eval x).cells.toList.length)).toArray
        refine goes_skip hd h (S.write hl hgo _ _ rfl ?_) ?_ (w' := w.setRow g (us.take off ++ (a.eval x).cells.toList ++ us.drop (off + (a.eval x).cells.toList.length)).toArray)
        · refine ⟨g, _, t', hm, hB, setRow_heap w g _ _ t' _ hg, ?_, ?_⟩
          · refine AV.relL_same hk _ _ ?_
            unfold putAt
            refine AV.relL_append (AV.relL_append (AV.relL_take _ hr) hvr) ?_
            rw [hvl]; exact AV.relL_drop _ hr
          · intro u hu
            simp only [List.mem_append] at hu
            rcases hu with (hu | hu) | hu
            · exact h1 u (List.mem_of_mem_take hu)
            · exact hv1 u hu
            · exact h1 u (List.mem_of_mem_drop hu)
        · have := run_store_block (P := P) (v := a.eval x) C.tok ht hg rfl (by rw [hvl]; exact hb1) (by rw [hvl, hcl]; exact hb2) hv1 (off := off)
          simp [execOp, ho, hpe, this]
    · exact h.elim
  · rename_i l i j
    obtain ⟨xs', s', hfr, h⟩ := freezeK_spec h
    split at h
    · rename_i x'
      obtain ⟨S', hxr⟩ := S.freeze hfr (us := [a.eval x]) (by simp only [AV.relL]; exact ⟨_, _, rfl, hv, rfl⟩)
      simp only [TV.relL] at hxr
      obtain ⟨_, _, hxe, hxr, rfl⟩ := hxr
      simp only [List.cons.injEq, and_true] at hxe
      subst hxe
      split at h
      · rename_i e k es new hl hnew
        obtain ⟨c, hc, h⟩ := h
        cases hb : Nat.beq new.length ti.size && Nat.ble (j + new.length) k with
        | false => simp [hb] at h
        | true =>
          simp only [hb, cond_true] at h
          simp only [Bool.and_eq_true] at hb
          have hb1 := Nat.eq_of_beq_eq_true hb.1
          have hb2 := Nat.le_of_ble_eq_true hb.2
          simp only [AV.rel] at hp
          obtain ⟨g, n, cap, hm, hpe⟩ := hp
          obtain ⟨us, hown, hr, h1, hk0, hkk⟩ := S'.ob l _ hl
          obtain ⟨hvr, hv1⟩ := rel_cellsT m kk hxr hnew
          have hvl := TV.relL_length hvr
          have hul := TV.relR_length hr
          have hgo : obk (m l) = some g := by rw [hm]; rfl
          have hi : i < es.length := (List.getElem?_eq_some_iff.1 hc).1
          obtain ⟨hck, hcr⟩ := TV.relR_get hr hc
          rcases hown.2 with ⟨hn, _⟩ | ⟨g', cap', cur, hv', hB, hg, hnc, hcm, hcs, htake⟩
          · rw [hn] at hm; simp at hm
          · rw [hv'] at hm
            simp at hm
            obtain ⟨rfl, rfl, rfl⟩ := hm
            have hik : i * k + k ≤ us.length := by
              rw [hul]
              have : (i + 1) * k ≤ es.length * k := Nat.mul_le_mul_right k (by omega)
              rw [Nat.add_mul] at this; omega
            have hcurl : us.length ≤ cur.toList.length := by rw [← htake]; simp; omega
            have hcut : cur.toList.take us.length = us := by rw [hul]; exact htake
            have hcur : cur = cur.toList.toArray := by simp
            generalize hvs : (a.eval x).cells.toList = vs at *
            have hfin : (cur.toList.take (i * k + j) ++ vs ++ cur.toList.drop (i * k + j + vs.length)).take us.length = us.take (i * k + j) ++ vs ++ us.drop (i * k + j + vs.length) := by
              conv => rhs; rw [← hcut]
              rw [List.take_append, List.take_append]
              simp only [List.length_append, List.length_take]
              rw [List.take_take, List.take_take, List.drop_take]
              have a1 : min (i * k + j) cur.toList.length = i * k + j := by omega
              rw [a1]
              have a2 : min us.length (i * k + j) = i * k + j := by omega
              have a3 : min (i * k + j) us.length = i * k + j := by omega
              rw [a2, a3]
              congr 1
              · congr 1
                rw [List.take_of_length_le (by omega)]
            have hk := keep_set S' hl (g := g') (by rw [hv']; rfl) (cur.toList.take (i * k + j) ++ vs ++ cur.toList.drop (i * k + j + vs.length)).toArray
            have hone : OneAll (us.take (i * k + j) ++ vs ++ us.drop (i * k + j + vs.length)) := by
              intro u hu
              simp only [List.mem_append] at hu
              rcases hu with (hu | hu) | hu
              · exact h1 u (List.mem_of_mem_take hu)
              · exact hv1 u hu
              · exact h1 u (List.mem_of_mem_drop hu)
            refine goes_skip hd h (S'.write hl (g := g') (by rw [hv']; rfl) _ _ rfl ?_) ?_ (w' := w.setRow g' (cur.toList.take (i * k + j) ++ vs ++ cur.toList.drop (i * k + j + vs.length)).toArray)
            · refine ⟨us.take (i * k + j) ++ vs ++ us.drop (i * k + j + vs.length), ?_, ?_, hone, hk0, hkk⟩
              · refine ⟨?_, .inr ⟨g', cap', _, by rw [hv']; simp, hB, setRow_heap w g' _ _ e _ hg, by simpa using hnc, hcm, ?_, ?_⟩⟩
                · simp only [List.length_append, List.length_take, List.length_drop, List.length_set]; rw [← hul]; omega
                · simp only [List.size_toArray, List.length_append, List.length_take, List.length_drop, Array.length_toList]
                  have hcl : cur.toList.length = cur.size := Array.length_toList
                  omega
                · simp only [List.length_set]; rw [← hul]; exact hfin
              · have hset := relR_set (c' := c.take j ++ new ++ c.drop (j + new.length)) (vs := ((us.drop (i * k)).take k).take j ++ vs ++ ((us.drop (i * k)).take k).drop (j + vs.length)) hr hc
                  (by simp only [List.length_append, List.length_take, List.length_drop]; omega)
                  (TV.relL_append (TV.relL_append (TV.relL_take _ hcr) hvr) (by rw [hvl]; exact TV.relL_drop _ hcr))
                rw [take_drop_mid us (i * k) k j vs.length (by omega) hik vs rfl] at hset
                exact TV.relR_keep hk _ _ _ hset
            · have := run_store_block (P := P) (v := a.eval x) (us := cur.toList) C.tok ht (by simpa using hg) hvs (by rw [hvl]; exact hb1) (by rw [hvl]; omega) hv1 (off := i * k + j)
              rw [hkk] at hpe
              simp [execOp, ho, hpe, this]
      · exact h.elim
    · exact h.elim
  · exact h.elim
end
end Go.Proofs.Ythiaahabnbionaa.Pl
