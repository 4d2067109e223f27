/- What an operation does to a state: soundness. -/
import Derived.Test.YtpakohboamfmjabPlOp
namespace Go.Proofs.Ytpakohboamfmjab.Pl
open Go.RowKit

section
variable {P : Program} {T : TyTab} {w : World} {N : Nat} {B0 : Nat → Prop} {F0 : Nat → Prop} {w0 : World} {m : Nat → Value} {kk : Nat → Nat}

theorem TOK.zero (hT : TOK P T) {t : TypeId} {i : TI} (ht : T t = some i) : ∃ z, (zeroValue t).run P w = .ok z w ∧ (∀ w F, TV.relL w F i.zero z.cells.toList) ∧ OneAll z.cells.toList := by
  obtain ⟨info, d, h1, h2, h3, h4, h5, ⟨z, hz1, hz2, hz3, hz4⟩, hfs⟩ := hT _ _ ht
  exact ⟨z, by simp [zeroValue, typeInfo, h1, hz1], hz2, hz3⟩

theorem below_alloc (w : World) (o : Obj) : Below w.heap.size w (w.alloc o) := (Below.refl _ _).alloc (Nat.le_refl _) o

theorem box_goes {o : Oper} {a : Act} {s : St} {K : St → Prop} (S : Sim N B0 F0 w0 s m kk a w) {t : TypeId} {x : Operand} (ho : o.op = .box t x) {ti : TI} (_ht : T t = some ti) {v : AV} {cs : List AV}
    (hv : v.rel w (Fc F0 B0 s.σ m) m kk (a.eval x)) (hcs : cellsOf v = some cs) {d : Tmp} (hd : o.dst = some d) (h : layK N o.dst s K (.var (cs.map (AV.kill d))) (.ptr · 0)) : Goes P N B0 F0 w0 o a w K := by
  obtain ⟨hr, h1⟩ := rel_cellsOf hv hcs
  have hnew := heap_new S d cs (a.eval x).cells.toList t hr h1
  refine goes_lay (x := .pointer (some ⟨w.heap.size, 0, none⟩)) (k := 0) (y := .pointer (some ⟨w.heap.size, 0, none⟩)) h S ?_ ?_ ?_ (w' := w.alloc (.cells (a.eval x).cells t))
  · simp [execOp, ho, Instr.box, newVar, newRow]
  · intro d' hd'; rw [hd] at hd'; injection hd' with e; subst e; simpa using hnew
  · intro d' hd'
    simp only [AV.rel]
    exact ⟨w.heap.size, upd_same _ _ _, by simp [Addr.add]⟩

theorem alloc_goes (C : Ctx P T) {o : Oper} {a : Act} {s : St} {K : St → Prop} (S : Sim N B0 F0 w0 s m kk a w) {t : TypeId} (ho : o.op = .alloc t) {ti : TI} (ht : T t = some ti)
    (h : layK N o.dst s K (.var (ti.zero.map .t)) (.ptr · 0)) : Goes P N B0 F0 w0 o a w K := by
  obtain ⟨z, hz, hz2, hz3⟩ := C.tok.zero (w := w) ht
  refine goes_lay (x := .pointer (some ⟨w.heap.size, 0, none⟩)) (k := 0) (y := .pointer (some ⟨w.heap.size, 0, none⟩)) h S ?_ ?_ ?_ (w' := w.alloc (.cells z.cells t))
  · simp [execOp, ho, Instr.alloc, hz, newVar, newRow]
  · intro d hd
    have hnew := heap_new S d (ti.zero.map .t) z.cells.toList t (relL_map.1 (hz2 _ _)) hz3
    rw [killT] at hnew
    simpa using hnew
  · intro d' hd'
    simp only [AV.rel]
    exact ⟨w.heap.size, upd_same _ _ _, by simp [Addr.add]⟩

/-! #### Stores -/
theorem run_store_block {g off : Nat} {t tt : TypeId} {us vs : List Value} {v : Value} {ti : TI} (hT : TOK P T) (ht : T tt = some ti) (hg : w.heap[g]? = some (.cells us.toArray t (0, 0)))
    (hv : v.cells.toList = vs) (hl : vs.length = ti.size) (hfit : off + vs.length ≤ us.length) (h1 : OneAll vs) :
    (Instr.storeAt tt (.pointer (some ((⟨g, 0, none⟩ : Addr).add off))) v).run P w = .ok () (w.setRow g (us.take off ++ vs ++ us.drop (off + vs.length)).toArray) := by
  have hst := run_storeCells_at P g off t vs 0 us.toArray w hg (by simpa using hfit) h1
  have hadd : (⟨g, 0, none⟩ : Addr).add off = ⟨g, off, none⟩ := by unfold Addr.add; split <;> simp_all
  have hsz : v.cells.size = ti.size := by rw [← hl, ← hv]; simp
  simp only [Nat.add_zero] at hst
  simp [Instr.storeAt, Instr.sureAddr, storeVar, hT.size ht, hsz, hadd, hv, hst]

/-- A block of an object's own is written: what the object holds turns, nothing else. -/
theorem Sim.write {s : St} {a : Act} (S : Sim N B0 F0 w0 s m kk a w) {l g : Nat} {o o' : AO} (hl : look l s.σ = some o) (hg : obk (m l) = some g) (us : Array Value) (σ' : List (Nat × AO)) (hσ : σ' = (l, o') :: s.σ)
    (ho : o'.rel (w.setRow g us) (Fc F0 B0 s.σ m) m kk B0 l) : Sim N B0 F0 w0 ⟨s.φ, σ'⟩ m kk a (w.setRow g us) := by
  subst hσ
  have hlook : ∀ l' q, look l' ((l, o') :: s.σ) = some q → ∃ q', look l' s.σ = some q' := by
    intro l' q h
    rw [look_cons] at h
    by_cases e : l' = l
    · subst e; exact ⟨o, hl⟩
    · simp only [e, if_false] at h; exact ⟨q, h⟩
  have hlook' : ∀ l' q', look l' s.σ = some q' → ∃ q, look l' ((l, o') :: s.σ) = some q := by
    intro l' q h
    rw [look_cons]
    by_cases e : l' = l
    · simp [e]
    · simp only [e, if_false]; exact ⟨q, h⟩
  have hF : ∀ b, Fc F0 B0 ((l, o') :: s.σ) m b ↔ Fc F0 B0 s.σ m b := fun b =>
    ⟨fun h => Fc.mono (fun l' q hq => hlook' l' q hq) h, fun h => Fc.mono (fun l' q hq => hlook l' q hq) h⟩
  have hk : Keeps w (Fc F0 B0 s.σ m) (w.setRow g us) (Fc F0 B0 ((l, o') :: s.σ) m) := by
    intro b hb hlt
    refine ⟨(hF b).2 hb, setRow_other w g b us ?_⟩
    intro e; subst e; exact hb.2 l o hl hg
  have hgB := AO.blk_lt (S.ob l o hl) hg
  refine ⟨⟨S.base, ?_, ?_, ?_⟩, ?_, S.df, S.sz⟩
  · exact S.below.trans rfl rfl rfl (by simp) (fun b _ hno => setRow_other w g b us (fun e => hno (by rw [e]; exact hgB.1)))
  · intro l' q hq
    rw [look_cons] at hq
    by_cases e : l' = l
    · subst e
      simp only [if_true, Option.some.injEq] at hq; subst hq
      have hk' : Keeps (w.setRow g us) (Fc F0 B0 s.σ m) (w.setRow g us) (Fc F0 B0 ((l', o') :: s.σ) m) := keeps_mono fun b hb => (hF b).2 hb
      exact AO.rel_keep hk' (fun _ _ => rfl) ho
    · simp only [e, if_false] at hq
      refine AO.rel_keep hk (fun b hb => setRow_other w g b us ?_) (S.ob l' q hq)
      intro e'; subst e'
      rcases S.dj l' l q o hq hl e with h | h
      · rw [h] at hb; cases hb
      · exact h (hb.trans hg.symm)
  · intro l1 l2 o1 o2 h1 h2 hne
    obtain ⟨q1, hq1⟩ := hlook l1 o1 h1
    obtain ⟨q2, hq2⟩ := hlook l2 o2 h2
    exact S.dj l1 l2 q1 q2 hq1 hq2 hne
  · intro t v hv
    exact AV.rel_same hk v _ (S.fr t v hv)

theorem keep_set {s : St} {a : Act} (_S : Sim N B0 F0 w0 s m kk a w) {l g : Nat} {o : AO} (hl : look l s.σ = some o) (hg : obk (m l) = some g) (us : Array Value) :
    Keeps w (Fc F0 B0 s.σ m) (w.setRow g us) (Fc F0 B0 s.σ m) := by
  intro b hb hlt
  refine ⟨hb, setRow_other w g b us ?_⟩
  intro e; subst e; exact hb.2 l o hl hg

theorem goes_skip {o : Oper} {a : Act} {K : St → Prop} {w' : World} {s' : St} (hd : o.dst = none) (h : K s') (S : Sim N B0 F0 w0 s' m kk a w')
    (hrun : (execOp a.eval o).run P w = .ok .skip w') : Goes P N B0 F0 w0 o a w K := by
  intro next Q hn
  unfold Oper.wp
  rw [hrun, Oper.upon_skip, hd]
  exact hn _ _ _ _ _ h S

theorem relR_set {F : Nat → Prop} {k : Nat} : ∀ {i : Nat} {es : List (List TV)} {us : List Value} {c : List TV} {vs : List Value}, TV.relR w F k es us → es[i]? = some c → ∀ {c' : List TV}, c'.length = k → TV.relL w F c' vs →
    TV.relR w F k (es.set i c') (us.take (i * k) ++ vs ++ us.drop (i * k + k))
  | _, [], us, c, vs, _, h, _, _, _ => by simp at h
  | 0, e :: es, us, c, vs, h, hc, c', hc', hv => by
    simp only [TV.relR] at h
    obtain ⟨u1, u2, rfl, hk, h0, h1⟩ := h
    have hl := TV.relL_length h0
    simp only [List.set_cons_zero, TV.relR, Nat.zero_mul, List.take_zero, List.nil_append, Nat.zero_add]
    refine ⟨vs, u2, ?_, hc', hv, h1⟩
    rw [← hk, ← hl, List.drop_left]
  | i + 1, e :: es, us, c, vs, h, hc, c', hc', hv => by
    simp only [TV.relR] at h
    obtain ⟨u1, u2, rfl, hk, h0, h1⟩ := h
    have hl := TV.relL_length h0
    simp only [List.set_cons_succ, TV.relR]
    refine ⟨u1, _, ?_, hk, h0, relR_set h1 (by simpa using hc) hc' hv⟩
    have e1 : (i + 1) * k = u1.length + i * k := by rw [hl, hk, Nat.add_mul]; omega
    rw [e1, List.take_length_add_append, Nat.add_assoc, ← List.drop_drop, List.drop_left]
    simp [List.append_assoc]

theorem rel_cellsT (m : Nat → Value) (kk : Nat → Nat) {F : Nat → Prop} {x : TV} {y : Value} {cs : List TV} (h : x.rel w F y) (hx : cellsT x = some cs) : TV.relL w F cs y.cells.toList ∧ OneAll y.cells.toList := by
  have h' : (AV.t x).rel w F m kk y := by simpa only [AV.rel] using h
  cases x with
  | agg xs =>
    simp only [cellsT, Option.some.injEq] at hx; subst hx
    obtain ⟨h1, h2⟩ := rel_cellsOf h' (by rfl)
    exact ⟨relL_map.2 h1, h2⟩
  | tup _ => simp [cellsT] at hx
  | v z => simp only [cellsT, Option.some.injEq] at hx; subst hx; obtain ⟨h1, h2⟩ := rel_cellsOf h' (by rfl); exact ⟨relL_map.2 h1, h2⟩
  | sl k es => simp only [cellsT, Option.some.injEq] at hx; subst hx; obtain ⟨h1, h2⟩ := rel_cellsOf h' (by rfl); exact ⟨relL_map.2 h1, h2⟩
  | ptr z => simp only [cellsT, Option.some.injEq] at hx; subst hx; obtain ⟨h1, h2⟩ := rel_cellsOf h' (by rfl); exact ⟨relL_map.2 h1, h2⟩
  | fn z z' => simp only [cellsT, Option.some.injEq] at hx; subst hx; obtain ⟨h1, h2⟩ := rel_cellsOf h' (by rfl); exact ⟨relL_map.2 h1, h2⟩
  | iface z z' => simp only [cellsT, Option.some.injEq] at hx; subst hx; obtain ⟨h1, h2⟩ := rel_cellsOf h' (by rfl); exact ⟨relL_map.2 h1, h2⟩

theorem take_drop_mid {α : Type} (us : List α) (n k j q : Nat) (h : j + q ≤ k) (hk : n + k ≤ us.length) (vs : List α) (hv : vs.length = q) :
    us.take n ++ (((us.drop n).take k).take j ++ vs ++ ((us.drop n).take k).drop (j + q)) ++ us.drop (n + k) = us.take (n + j) ++ vs ++ us.drop (n + j + q) := by
  have e1 : us.take (n + j) = us.take n ++ ((us.drop n).take k).take j := by
    rw [List.take_take, Nat.min_eq_left (by omega), ← List.take_add]
  have e2 : ((us.drop n).take k).drop (j + q) ++ us.drop (n + k) = us.drop (n + j + q) := by
    have : us.drop (n + k) = (us.drop n).drop k := by rw [List.drop_drop]
    rw [this]
    have h3 : (us.drop n).drop (j + q) = ((us.drop n).take k).drop (j + q) ++ (us.drop n).drop k := by
      have h4 : us.drop n = (us.drop n).take k ++ (us.drop n).drop k := (List.take_append_drop k _).symm
      have h5 : ((us.drop n).take k).length = k := by simp; omega
      conv => lhs; rw [h4]
      rw [List.drop_append_of_le_length (by omega)]
    rw [← h3, List.drop_drop]; congr 1; omega
  rw [e1, ← e2]; simp [List.append_assoc]

theorem store_goes (C : Ctx P T) {o : Oper} {a : Act} {s : St} {K : St → Prop} (S : Sim N B0 F0 w0 s m kk a w) {t : TypeId} {p x : Operand} (ho : o.op = .store t p x) {ti : TI} (ht : T t = some ti) {pa v : AV}
    (hp : pa.rel w (Fc F0 B0 s.σ m) m kk (a.eval p)) (hv : v.rel w (Fc F0 B0 s.σ m) m kk (a.eval x)) (hd : o.dst = none) (h : storeK ti s K pa v) : Goes P N B0 F0 w0 o a w K := by
  unfold storeK at h
  split at h
  · rename_i l off
    split at h
    · rename_i cs new hl hnew
      cases hb : Nat.beq new.length ti.size && Nat.ble (off + new.length) cs.length with
      | false => simp [hb] at h
      | true =>
        simp only [hb, cond_true] at h
        simp only [Bool.and_eq_true] at hb
        have hb1 := Nat.eq_of_beq_eq_true hb.1
        have hb2 := Nat.le_of_ble_eq_true hb.2
        simp only [AV.rel] at hp
        obtain ⟨g, hm, hpe⟩ := hp
        obtain ⟨g', us, t', hm', hB, hg, hr, h1⟩ := S.ob l _ hl
        rw [hm] at hm'; simp at hm'; subst hm'
        obtain ⟨hvr, hv1⟩ := rel_cellsOf hv hnew
        have hvl := AV.relL_length hvr
        have hcl := AV.relL_length hr
        have hgo : obk (m l) = some g := by rw [hm]; rfl
        have hk := keep_set S hl hgo (us.take off ++ (a.eval x).cells.toList ++ us.drop (off + (a.eval x).cells.toList.length)).toArray
        refine goes_skip hd h (S.write hl hgo _ _ rfl ?_) ?_ (w' := w.setRow g (us.take off ++ (a.eval x).cells.toList ++ us.drop (off + (a.eval x).cells.toList.length)).toArray)
        · refine ⟨g, _, t', hm, hB, setRow_heap w g _ _ t' _ hg, ?_, ?_⟩
          · refine AV.relL_same hk _ _ ?_
            unfold putAt
            refine AV.relL_append (AV.relL_append (AV.relL_take _ hr) hvr) ?_
            rw [hvl]; exact AV.relL_drop _ hr
          · intro u hu
            simp only [List.mem_append] at hu
            rcases hu with (hu | hu) | hu
            · exact h1 u (List.mem_of_mem_take hu)
            · exact hv1 u hu
            · exact h1 u (List.mem_of_mem_drop hu)
        · have := run_store_block (P := P) (v := a.eval x) C.tok ht hg rfl (by rw [hvl]; exact hb1) (by rw [hvl, hcl]; exact hb2) hv1 (off := off)
          simp [execOp, ho, hpe, this]
    · exact h.elim
  · rename_i l i j
    obtain ⟨xs', s', hfr, h⟩ := freezeK_spec h
    split at h
    · rename_i x'
      obtain ⟨S', hxr⟩ := S.freeze hfr (us := [a.eval x]) (by simp only [AV.relL]; exact ⟨_, _, rfl, hv, rfl⟩)
      simp only [TV.relL] at hxr
      obtain ⟨_, _, hxe, hxr, rfl⟩ := hxr
      simp only [List.cons.injEq, and_true] at hxe
      subst hxe
      split at h
      · rename_i e k es new hl hnew
        obtain ⟨c, hc, h⟩ := h
        cases hb : Nat.beq new.length ti.size && Nat.ble (j + new.length) k with
        | false => simp [hb] at h
        | true =>
          simp only [hb, cond_true] at h
          simp only [Bool.and_eq_true] at hb
          have hb1 := Nat.eq_of_beq_eq_true hb.1
          have hb2 := Nat.le_of_ble_eq_true hb.2
          simp only [AV.rel] at hp
          obtain ⟨g, n, cap, hm, hpe⟩ := hp
          obtain ⟨us, hown, hr, h1, hk0, hkk⟩ := S'.ob l _ hl
          obtain ⟨hvr, hv1⟩ := rel_cellsT m kk hxr hnew
          have hvl := TV.relL_length hvr
          have hul := TV.relR_length hr
          have hgo : obk (m l) = some g := by rw [hm]; rfl
          have hi : i < es.length := (List.getElem?_eq_some_iff.1 hc).1
          obtain ⟨hck, hcr⟩ := TV.relR_get hr hc
          have hO := hown.2
          rcases hown.1.2 with ⟨hn, _⟩ | ⟨g', cap', cur, hv', hB, hg, hnc, hcm, hcs, htake⟩
          · rw [hn] at hm; simp at hm
          · rw [hv'] at hm
            simp at hm
            obtain ⟨rfl, rfl, rfl⟩ := hm
            have hik : i * k + k ≤ us.length := by
              rw [hul]
              have : (i + 1) * k ≤ es.length * k := Nat.mul_le_mul_right k (by omega)
              rw [Nat.add_mul] at this; omega
            have hcurl : us.length ≤ cur.toList.length := by rw [← htake]; simp; omega
            have hcut : cur.toList.take us.length = us := by rw [hul]; exact htake
            have hcur : cur = cur.toList.toArray := by simp
            generalize hvs : (a.eval x).cells.toList = vs at *
            have hfin : (cur.toList.take (i * k + j) ++ vs ++ cur.toList.drop (i * k + j + vs.length)).take us.length = us.take (i * k + j) ++ vs ++ us.drop (i * k + j + vs.length) := by
              conv => rhs; rw [← hcut]
              rw [List.take_append, List.take_append]
              simp only [List.length_append, List.length_take]
              rw [List.take_take, List.take_take, List.drop_take]
              have a1 : min (i * k + j) cur.toList.length = i * k + j := by omega
              rw [a1]
              have a2 : min us.length (i * k + j) = i * k + j := by omega
              have a3 : min (i * k + j) us.length = i * k + j := by omega
              rw [a2, a3]
              congr 1
              · congr 1
                rw [List.take_of_length_le (by omega)]
            have hk := keep_set S' hl (g := g') (by rw [hv']; rfl) (cur.toList.take (i * k + j) ++ vs ++ cur.toList.drop (i * k + j + vs.length)).toArray
            have hone : OneAll (us.take (i * k + j) ++ vs ++ us.drop (i * k + j + vs.length)) := by
              intro u hu
              simp only [List.mem_append] at hu
              rcases hu with (hu | hu) | hu
              · exact h1 u (List.mem_of_mem_take hu)
              · exact hv1 u hu
              · exact h1 u (List.mem_of_mem_drop hu)
            refine goes_skip hd h (S'.write hl (g := g') (by rw [hv']; rfl) _ _ rfl ?_) ?_ (w' := w.setRow g' (cur.toList.take (i * k + j) ++ vs ++ cur.toList.drop (i * k + j + vs.length)).toArray)
            · refine ⟨us.take (i * k + j) ++ vs ++ us.drop (i * k + j + vs.length), ?_, ?_, hone, hk0, hkk⟩
              · refine ⟨⟨?_, .inr ⟨g', cap', _, by rw [hv']; simp, hB, setRow_heap w g' _ _ e _ hg, by simpa using hnc, hcm, ?_, ?_⟩⟩, hO⟩
                · simp only [List.length_append, List.length_take, List.length_drop, List.length_set]; rw [← hul]; omega
                · simp only [List.size_toArray, List.length_append, List.length_take, List.length_drop, Array.length_toList]
                  have hcl : cur.toList.length = cur.size := Array.length_toList
                  omega
                · simp only [List.length_set]; rw [← hul]; exact hfin
              · have hset := relR_set (c' := c.take j ++ new ++ c.drop (j + new.length)) (vs := ((us.drop (i * k)).take k).take j ++ vs ++ ((us.drop (i * k)).take k).drop (j + vs.length)) hr hc
                  (by simp only [List.length_append, List.length_take, List.length_drop]; omega)
                  (TV.relL_append (TV.relL_append (TV.relL_take _ hcr) hvr) (by rw [hvl]; exact TV.relL_drop _ hcr))
                rw [take_drop_mid us (i * k) k j vs.length (by omega) hik vs rfl] at hset
                exact TV.relR_keep hk _ _ _ hset
            · have := run_store_block (P := P) (v := a.eval x) (us := cur.toList) C.tok ht (by simpa using hg) hvs (by rw [hvl]; exact hb1) (by rw [hvl]; omega) hv1 (off := i * k + j)
              rw [hkk] at hpe
              simp [execOp, ho, hpe, this]
      · exact h.elim
    · exact h.elim
  · exact h.elim

/-! #### clear -/
theorem goes_unit {o : Oper} {a : Act} {K : St → Prop} {w' : World} {s' : St} {y : Value} (hd : o.dst = none) (h : K s') (S : Sim N B0 F0 w0 s' m kk a w')
    (hrun : (execOp a.eval o).run P w = .ok (.value y) w') : Goes P N B0 F0 w0 o a w K := by
  intro next Q hn
  unfold Oper.wp
  rw [hrun, Oper.upon_value, hd]
  exact hn _ _ _ _ _ h S

theorem relR_split {F : Nat → Prop} {k : Nat} : ∀ (i : Nat) {es : List (List TV)} {us : List Value}, TV.relR w F k es us → TV.relR w F k (es.take i) (us.take (i * k)) ∧ TV.relR w F k (es.drop i) (us.drop (i * k))
  | 0, es, us, h => by simp [TV.relR, h]
  | i + 1, [], us, h => by simp only [TV.relR] at h; subst h; simp [TV.relR]
  | i + 1, e :: es, us, h => by
    simp only [TV.relR] at h
    obtain ⟨u1, u2, rfl, hk, h0, h1⟩ := h
    have hl := TV.relL_length h0
    obtain ⟨i1, i2⟩ := relR_split i h1
    have e1 : (i + 1) * k = u1.length + i * k := by rw [hl, hk, Nat.add_mul]; omega
    rw [e1, List.take_length_add_append]
    refine ⟨?_, ?_⟩
    · simp only [List.take_succ_cons, TV.relR]
      exact ⟨u1, _, rfl, hk, h0, i1⟩
    · rw [List.drop_succ_cons, List.drop_append (l₁ := u1), List.drop_of_length_le (l := u1) (by omega), List.nil_append, Nat.add_sub_cancel_left]; exact i2

theorem zeros_rel {F : Nat → Prop} {k : Nat} {z : Array Value} {zs : List TV} (hz : TV.relL w F zs z.toList) (hk : z.size = k) (h1 : OneAll z.toList) : ∀ n,
    TV.relR w F k (List.replicate n zs) (Builtin.zeroCells z n).toList ∧ OneAll (Builtin.zeroCells z n).toList
  | 0 => by simp [Builtin.zeroCells, TV.relR, OneAll]
  | n + 1 => by
    obtain ⟨i1, i2⟩ := zeros_rel hz hk h1 n
    have e : (Builtin.zeroCells z (n + 1)).toList = (Builtin.zeroCells z n).toList ++ z.toList := by
      simp only [Builtin.zeroCells, Array.toList_map, Array.toList_range, hk]
      rw [Nat.add_mul, Nat.one_mul, List.range_add, List.map_append]
      congr 1
      apply List.ext_getElem
      · simp [hk]
      · intro j h1 h2
        simp only [List.length_map, List.length_range] at h1
        simp only [List.getElem_map, List.getElem_range]
        have : (n * k + j) % k = j := by
          rw [Nat.mul_comm, Nat.mul_add_mod, Nat.mod_eq_of_lt h1]
        rw [this, getElem!_pos z j (by omega)]
        simp
    rw [e, List.replicate_succ']
    have hl := TV.relL_length hz
    refine ⟨TV.relR_append i1 ?_, ?_⟩
    · simp only [TV.relR]
      exact ⟨z.toList, [], by simp, by simp at hl; omega, hz, rfl⟩
    · intro u hu
      rcases List.mem_append.1 hu with hu | hu
      · exact i2 u hu
      · exact h1 u hu

theorem clear_goes (C : Ctx P T) {o : Oper} {a : Act} {s : St} {K : St → Prop} (S : Sim N B0 F0 w0 s m kk a w) {as : Array Operand} {ts : Array TypeId} (ho : o.op = .call { callee := .builtin .clear, args := as, argTypes := ts })
    {xo : Operand} (has : as.map a.eval = #[a.eval xo]) {t : TypeId} (hts : ts = #[t]) {x : AV} (hx : x.rel w (Fc F0 B0 s.σ m) m kk (a.eval xo)) (hd : o.dst = none) (h : clearK T s K t x) : Goes P N B0 F0 w0 o a w K := by
  unfold clearK at h
  split at h
  · rename_i e sz by' z0 q l i n ht
    split at h
    · rename_i e' k es ei hl hei
      cases hb : Nat.beq ei.size k with
      | false => simp [hb] at h
      | true =>
        simp only [hb, cond_true] at h
        have hk := Nat.eq_of_beq_eq_true hb
        obtain ⟨d, hdd, hun⟩ := C.tok.under (w := w) ht
        simp only [Ty.fits] at hdd; subst hdd
        obtain ⟨info, ed, i1, i2, i3, i4, i5, ⟨z, z1, z2, z3, z4⟩, _⟩ := C.tok _ _ hei
        have hz : (zeroValue e).run P w = .ok z w := by simp [zeroValue, typeInfo, i1, z1]
        obtain ⟨us, hown, hr, h1, hk0, hkk⟩ := S.ob l _ hl
        have hcut : n = 0 → es.take i ++ List.replicate n ei.zero ++ es.drop (i + n) = es := by rintro rfl; simp
        have hnone : n = 0 → (execOp a.eval o).run P w = .ok (.value (.tuple #[])) w → Goes P N B0 F0 w0 o a w K := by
          intro h0 hrun
          rw [hcut h0] at h
          refine goes_unit hd h ?_ hrun (m := m) (kk := kk)
          have hlook : ∀ l' q, look l' ((l, AO.row e' k es) :: s.σ) = some q → look l' s.σ = some q := by
            intro l' q h
            rw [look_cons] at h
            by_cases e : l' = l
            · subst e; simp at h; rw [← h]; exact hl
            · simpa only [e, if_false] using h
          have hkp : Keeps w (Fc F0 B0 s.σ m) w (Fc F0 B0 ((l, AO.row e' k es) :: s.σ) m) := keeps_mono fun b hb => Fc.mono (fun l' o h => ⟨o, hlook l' o h⟩) hb
          refine ⟨⟨S.base, S.below, fun l' q hq => ?_, fun l1 l2 o1 o2 h1 h2 hne => S.dj l1 l2 o1 o2 (hlook _ _ h1) (hlook _ _ h2) hne⟩, fun t v hv => AV.rel_same hkp v _ (S.fr t v hv), S.df, S.sz⟩
          exact AO.rel_keep hkp (fun _ _ => rfl) (S.ob l' q (hlook l' q hq))
        simp only [AV.rel] at hx
        rcases hx with ⟨g, M, cap, A, hm, hy, hAb, hA, hA0, hin⟩ | ⟨hm, hy, rfl, rfl⟩
        · by_cases h0 : n = 0
          · subst h0
            refine hnone rfl ?_
            simp [execOp, ho, resolve, has, hts, hy, invoke, builtin, Builtin.clear_, hun]
          · have hAe := hA h0
            subst hAe
            rcases hown.1.2 with ⟨hn, _⟩ | ⟨g', cap', cur, hv, hB, hg, hnc, hcm, hcs, htake⟩
            · rw [hm] at hn; simp at hn
            · rw [hm] at hv
              simp at hv
              obtain ⟨hgg, hMM, hcc⟩ := hv
              subst hgg; subst hMM
              subst hcc
              obtain ⟨zr, zo⟩ := zeros_rel (w := w) (F := Fc F0 B0 s.σ m) (k := k) (z2 _ _) (by omega) z3 n
              have hzl := TV.relR_length zr
              simp only [List.length_replicate] at hzl
              generalize hvs : (Builtin.zeroCells z.cells n).toList = vs at *
              have hul := TV.relR_length hr
              have hin' : i * k + n * k ≤ es.length * k := by rw [← Nat.add_mul]; exact Nat.mul_le_mul_right k hin
              have hcapk : es.length * k ≤ cap * k := Nat.mul_le_mul_right k hnc
              have hst := run_storeCells_at P g (i * k) e' vs 0 cur w hg (by omega) zo
              have hadd : (⟨g, 0, none⟩ : Addr).add (i * k) = ⟨g, i * k, none⟩ := by unfold Addr.add; split <;> simp_all
              simp only [Nat.add_zero] at hst
              have hgo : obk (m l) = some g := by rw [hm]; rfl
              have hkp := keep_set S hl hgo (cur.toList.take (i * k) ++ vs ++ cur.toList.drop (i * k + vs.length)).toArray
              have hcl : cur.toList.length = cur.size := Array.length_toList
              have hcut' : cur.toList.take us.length = us := by rw [hul]; exact htake
              have hfin : (cur.toList.take (i * k) ++ vs ++ cur.toList.drop (i * k + vs.length)).take us.length = us.take (i * k) ++ vs ++ us.drop (i * k + vs.length) := by
                conv => rhs; rw [← hcut']
                rw [List.take_append, List.take_append]
                simp only [List.length_append, List.length_take]
                rw [List.take_take, List.take_take, List.drop_take]
                have a1 : min (i * k) cur.toList.length = i * k := by omega
                rw [a1]
                have a2 : min us.length (i * k) = i * k := by omega
                have a3 : min (i * k) us.length = i * k := by omega
                rw [a2, a3]
                congr 1
                · congr 1
                  rw [List.take_of_length_le (by omega)]
              refine goes_unit (y := .tuple #[]) hd h (S.write hl hgo _ _ rfl ?_) ?_ (w' := w.setRow g (cur.toList.take (i * k) ++ vs ++ cur.toList.drop (i * k + vs.length)).toArray)
              · have hlen : (es.take i ++ List.replicate n ei.zero ++ es.drop (i + n)).length = es.length := by simp; omega
                refine ⟨us.take (i * k) ++ vs ++ us.drop (i * k + vs.length), ⟨⟨?_, .inr ⟨g, cap, _, by rw [hm, hlen], hB, setRow_heap w g _ _ e' _ hg, by rw [hlen]; exact hnc, hcm, ?_, ?_⟩⟩, hown.2⟩, ?_, ?_, hk0, hkk⟩
                · rw [hlen]; simp only [List.length_append, List.length_take, List.length_drop]; omega
                · simp only [List.size_toArray, List.length_append, List.length_take, List.length_drop]; omega
                · rw [hlen, ← hul]; exact hfin
                · refine TV.relR_keep hkp _ _ _ ?_
                  refine TV.relR_append (TV.relR_append (relR_split i hr).1 zr) ?_
                  rw [hzl, ← Nat.add_mul]; exact (relR_split (i + n) hr).2
                · intro u hu
                  simp only [List.mem_append] at hu
                  rcases hu with (hu | hu) | hu
                  · exact h1 u (List.mem_of_mem_take hu)
                  · exact zo u hu
                  · exact h1 u (List.mem_of_mem_drop hu)
              · cases n with
                | zero => exact absurd rfl h0
                | succ n' =>
                  rw [hkk, hadd] at hy
                  simp [execOp, ho, resolve, has, hts, hy, invoke, builtin, Builtin.clear_, hun, hz, hvs, hst]
        · refine hnone rfl ?_
          simp [execOp, ho, resolve, has, hts, hy, invoke, builtin, Builtin.clear_, hun]
    · exact h.elim
  · exact h.elim

theorem makeSlice_goes (C : Ctx P T) {o : Oper} {a : Act} {s : St} {K : St → Prop} (S : Sim N B0 F0 w0 s m kk a w) {t : TypeId} {xn xc : Operand} (ho : o.op = .makeSlice t xn xc) {vn vc : AV}
    (hn : vn.rel w (Fc F0 B0 s.σ m) m kk (a.eval xn)) (hc : vc.rel w (Fc F0 B0 s.σ m) m kk (a.eval xc)) (h : makeSliceK T N o.dst t s K vn vc) : Goes P N B0 F0 w0 o a w K := by
  unfold makeSliceK at h
  split at h
  · rename_i e sz by' z0 q n c ht
    split at h
    · rename_i ei hei
      cases hb : Nat.blt 0 ei.size with
      | false => simp [hb] at h
      | true =>
        simp only [hb, cond_true] at h
        have hpos : 0 < ei.size := Nat.le_of_ble_eq_true hb
        obtain ⟨h0, hnc, hc63, hby, h⟩ := h
        simp only [AV.rel, TV.rel] at hn hc
        obtain ⟨hne, _⟩ := hn
        obtain ⟨hce, _⟩ := hc
        obtain ⟨d, hdd, hun⟩ := C.tok.under (w := w) ht
        simp only [Ty.fits] at hdd; subst hdd
        obtain ⟨info, ed, i1, i2, i3, i4, i5, ⟨z, z1, z2, z3, z4⟩, _⟩ := C.tok _ _ hei
        have hwn : IntKind.i64.wrap n = n := by
          unfold IntKind.wrap; simp [IntKind.bits, IntKind.signed]; omega
        have hwc : IntKind.i64.wrap c = c := by
          unfold IntKind.wrap; simp [IntKind.bits, IntKind.signed]; omega
        have hcb : ¬ ((info.bytes : Int) * c > 2 ^ 48) := by
          rw [i5]
          have : (ei.bytes : Int) * c = ((c.toNat * ei.bytes : Nat) : Int) := by
            rw [Int.natCast_mul, Int.toNat_of_nonneg (by omega), Int.mul_comm]
          rw [this]; omega
        have hbel := below_alloc w (.cells (Builtin.zeroCells z.cells c.toNat) e)
        have hcellsz : (Builtin.zeroCells z.cells c.toNat).size = c.toNat * ei.size := by simp [Builtin.zeroCells, z4]
        obtain ⟨zr, zo⟩ := zeros_rel (w := w) (F := Fc F0 B0 s.σ m) (k := ei.size) (z2 _ _) (by omega) z3 c.toNat
        have hrun : (execOp a.eval o).run P w = .ok (.value (.slice (some ⟨w.heap.size, 0, none⟩) n.toNat c.toNat)) (w.alloc (.cells (Builtin.zeroCells z.cells c.toNat) e)) := by
          have hz : (if c.toNat * ei.size = 0 then (pure #[] : Sem (Array Value)) else do pure (← zeroValue e).cells).run P w = .ok (if c.toNat * ei.size = 0 then #[] else z.cells) w := by
            by_cases hz : c.toNat * ei.size = 0
            · simp [hz]
            · simp [hz, zeroValue, typeInfo, i1, z1]
          have hcl : (Array.range (c.toNat * ei.size)).map (fun i => (if c.toNat * ei.size = 0 then (#[] : Array Value) else z.cells)[i % (if c.toNat * ei.size = 0 then (#[] : Array Value) else z.cells).size]!) = Builtin.zeroCells z.cells c.toNat := by
            by_cases hz : c.toNat * ei.size = 0
            · simp [Builtin.zeroCells, z4, hz]
            · simp only [hz, if_false, Builtin.zeroCells, z4]
          have hi : (Go.typeInfo e).run P w = .ok info w := by simp [typeInfo, i1]
          have hcond : ((decide (c < 0) || decide ((info.bytes : Int) * c > 2 ^ 48) || decide (n < 0) || decide (n > c)) : Bool) = false := by
            simp only [Bool.or_eq_false_iff, decide_eq_false_iff_not]
            exact ⟨⟨⟨by omega, hcb⟩, by omega⟩, by omega⟩
          have hroom : ¬ c.toNat * info.bytes > roomBytes := by rw [i5]; unfold roomBytes; omega
          simp only [execOp, ho, Instr.makeSlice, hne, hce, asInt, asIntOf, Sem.run_bind, Sem.run_pure, Result.andThen_ok, hun, hi, hwn, hwc, hcond, Bool.false_eq_true, if_false, askRoom, hroom, C.tok.size hei, Sem.run_ite]
          by_cases hz0 : c.toNat * ei.size = 0
          · simp only [hz0, if_true]
            simp only [hz0, if_true] at hcl
            rw [← hcl]
            simp [newRow]
          · simp only [hz0, if_false]
            simp only [hz0, if_false, Sem.run_bind, Sem.run_pure] at hcl hz
            have hz' : (zeroValue e).run P w = .ok z w := by simp [zeroValue, typeInfo, i1, z1]
            rw [hz']
            simp only [Result.andThen_ok]
            rw [hcl]
            simp [newRow]
        refine goes_lay (x := .slice (some ⟨w.heap.size, 0, none⟩) n.toNat c.toNat) (k := ei.size) h S hrun ?_ ?_
        · intro d hd
          have hnc' : n.toNat ≤ c.toNat := by omega
          have hmul : n.toNat * ei.size ≤ c.toNat * ei.size := Nat.mul_le_mul_right _ hnc'
          refine heap_row S d e ei.size _ _ ((Builtin.zeroCells z.cells c.toNat).toList.take (n.toNat * ei.size)) hpos hbel ?_ ?_ (fun u hu => zo u (List.mem_of_mem_take hu))
          · refine ⟨by simp only [List.length_take, Array.length_toList, hcellsz, List.length_replicate]; omega, .inr ⟨w.heap.size, c.toNat, _, by simp, Nat.le_refl _, heap_alloc_new w _, by simpa using hnc', by simp only [maxLen]; omega, hcellsz, by simp⟩⟩
          · have := (relR_split n.toNat zr).1
            rw [List.take_replicate, Nat.min_eq_left hnc'] at this
            refine TV.relR_keep ?_ _ _ _ this
            intro b hb hlt
            exact ⟨⟨hb, by simp [obk]; omega⟩, hbel.block b hlt⟩
        · intro d hd
          simp only [AV.rel]
          exact ⟨(upd_same _ _ _).symm, _, _, _, upd_same _ _ _⟩
    · exact h.elim
  · exact h.elim
end
end Go.Proofs.Ytpakohboamfmjab.Pl
