/- Appends, literals of slices, calls; all operations. -/
import Derived.Test.YtpakohboamfmjabPlOp2
namespace Go.Proofs.Ytpakohboamfmjab.Pl
open Go.RowKit

section
variable {P : Program} {T : TyTab} {w : World} {N : Nat} {B0 : Nat → Prop} {F0 : Nat → Prop} {w0 : World} {m : Nat → Value} {kk : Nat → Nat}

theorem below_drew (w : World) : Below w.heap.size w w.drew := ⟨rfl, rfl, rfl, Nat.le_refl _, fun _ _ => rfl⟩

/-- What is appended, as cells in memory. -/
theorem elems_rel {s : St} (H : Heap B0 F0 w0 s.σ m kk w) {x : AV} {y : Value} (hx : x.rel w (Fc F0 B0 s.σ m) m kk y) {es : List (List TV)} {k : Nat} (he : elemsOf s.σ x = some es) (hk : kOf s.σ x = some k) :
    ∃ A c us, y = .slice A es.length c ∧ (es = [] ∨ 0 < k) ∧ TV.relR w (Fc F0 B0 s.σ m) k es us ∧ OneAll us ∧ ((A = none ∧ us = []) ∨ ∃ a, A = some a ∧ CellsAt w a us) := by
  unfold elemsOf at he
  split at he
  · rename_i k' es'
    simp only [Option.some.injEq] at he; subst he
    simp only [kOf, Option.some.injEq] at hk; subst hk
    simp only [AV.rel, TV.rel] at hx
    obtain ⟨A, c, us, rfl, _, _, hk0, hr, ho, hm⟩ := hx
    refine ⟨A, c, us, rfl, .inr hk0, hr, ho, ?_⟩
    rcases hm with rfl | ⟨a, rfl, _, hc⟩
    · cases A with
      | none => exact .inl ⟨rfl, rfl⟩
      | some a => exact .inr ⟨a, rfl, fun j u hj => by simp at hj⟩
    · exact .inr ⟨a, rfl, hc⟩
  · simp only [Option.some.injEq] at he; subst he
    simp only [AV.rel, TV.rel] at hx
    obtain ⟨rfl, _⟩ := hx
    exact ⟨none, 0, [], rfl, .inl rfl, by simp [TV.relR], fun u hu => by simp at hu, .inl ⟨rfl, rfl⟩⟩
  · rename_i l
    split at he
    · rename_i e k' es' hl
      simp only [Option.some.injEq] at he; subst he
      simp only [kOf, hl, Option.some.injEq] at hk; subst hk
      simp only [AV.rel] at hx
      obtain ⟨rfl, A, n, c, hm⟩ := hx
      obtain ⟨us, hown, hr, h1, hk0, hkk⟩ := H.ob l _ hl
      rcases hown.1.2 with ⟨hn, hn0⟩ | ⟨g, cap, cur, hv, hB, hg, hnc, hcm, _⟩
      · refine ⟨none, 0, us, by rw [hn, hn0], .inr hk0, hr, h1, .inl ⟨rfl, ?_⟩⟩
        have := TV.relR_length hr
        rw [hn0, Nat.zero_mul] at this
        exact List.eq_nil_of_length_eq_zero this
      · exact ⟨_, cap, us, hv, .inr hk0, hr, h1, .inr ⟨_, rfl, hown.1.cells (g := g) (by rw [hv]; rfl)⟩⟩
    · cases he
  · cases he

/-- One append onto a row of the call's own. -/
theorem run_append (hT : TOK P T) {t ty e : TypeId} {ti ei : TI} (ht : T t = some ti) (hd : ti.d = .slice e) (he : T e = some ei) (hsz : 0 < ei.size) (base : Nat) (hbase : base ≤ w.heap.size)
    {v : Value} {n : Nat} {xs : List Value} (hown : w.ownsRow base e ei.size v n xs) {A : Option Addr} {c mm : Nat} {news : List Value} (hl : news.length = mm * ei.size) (h1 : OneAll news)
    (hA : (A = none ∧ news = []) ∨ ∃ a, A = some a ∧ CellsAt w a news) (h63 : n + mm ≤ maxLen) (hbytes : (n + mm) * ei.bytes ≤ 140737488355328) :
    ∃ v' w', (Builtin.append_ #[t, t] ty #[v, .slice A mm c]).run P w = .ok v' w' ∧ w'.ownsRow base e ei.size v' (n + mm) (xs ++ news) ∧ w.grownBy w' v.ownBlock ∧
      (v'.ownBlock = v.ownBlock ∨ v'.ownBlock = some w.heap.size) := by
  obtain ⟨info, d, i1, i2, i3, _⟩ := hT _ _ ht
  rw [hd] at i3; simp only [Ty.fits] at i3; subst i3
  obtain ⟨einfo, ed, e1, e2, e3, e4, e5, ⟨z, z1, z2, z3, z4⟩, _⟩ := hT _ _ he
  rcases hA with ⟨rfl, rfl⟩ | ⟨a, rfl, hc⟩
  · have hm0 : mm = 0 := by
      rcases Nat.eq_zero_or_pos mm with h | h
      · exact h
      · have : 0 < mm * ei.size := Nat.mul_pos h hsz
        simp at hl; omega
    subst hm0
    refine ⟨v, w, ?_, by simpa using hown, ⟨rfl, rfl, rfl, Nat.le_refl _, fun _ _ _ => rfl⟩, .inl rfl⟩
    rcases hown.2 with ⟨rfl, rfl⟩ | ⟨g, cap, cur, rfl, _, _, hnc, _⟩
    · simp [Builtin.append_, run_underlying i2, sizeOf, typeInfo, e1, Builtin.lenOf, Builtin.firstCells]
    · simp [Builtin.append_, run_underlying i2, sizeOf, typeInfo, e1, Builtin.lenOf, Builtin.firstCells, hnc, storeCells]
  · obtain ⟨v', w', r1, r2, r3, _, r4⟩ := run_append_own_at (P := P) w base t ty e einfo z ei.size ei.bytes i2 e1 z1 e4 e5 z4 hsz v n xs hown a mm c news hl hc h1 h63 hbytes hbase
    exact ⟨v', w', r1, r2, r3, r4⟩

theorem append_goes (C : Ctx P T) {o : Oper} {a : Act} {s : St} {K : St → Prop} (S : Sim N B0 F0 w0 s m kk a w) {as : Array Operand} {ts : Array TypeId} (ho : o.op = .call { callee := .builtin .append, args := as, argTypes := ts })
    {bo xo : Operand} (has : as.map a.eval = #[a.eval bo, a.eval xo]) {t t' : TypeId} (hts : ts = #[t, t']) {b x : AV}
    (hb : b.rel w (Fc F0 B0 s.σ m) m kk (a.eval bo)) (hx : x.rel w (Fc F0 B0 s.σ m) m kk (a.eval xo)) (h : appendK T N o.dst t t' s K b x) : Goes P N B0 F0 w0 o a w K := by
  have hsz0 := S.newB
  unfold appendK at h
  cases htt : Nat.beq t t' with
  | false => simp [htt] at h
  | true =>
    have := Nat.eq_of_beq_eq_true htt; subst this
    simp only [htt, cond_true] at h
    split at h
    · rename_i e sz by' z q ht
      split at h
      · rename_i ei news kx hei hnews hkx
        cases hkk : (Nat.beq kx ei.size || Nat.beq kx 0) && Nat.blt 0 ei.size with
        | false => simp [hkk] at h
        | true =>
          simp only [hkk, cond_true] at h
          simp only [Bool.and_eq_true, Bool.or_eq_true] at hkk
          obtain ⟨hkx', hpos⟩ := hkk
          have hpos : 0 < ei.size := Nat.le_of_ble_eq_true hpos
          obtain ⟨A, c, us, hxe, hk0, hr, h1, hA⟩ := elems_rel S.toHeap hx hnews hkx
          have hr' : TV.relR w (Fc F0 B0 s.σ m) ei.size news us := by
            rcases hkx' with hkx' | hkx'
            · rw [← Nat.eq_of_beq_eq_true hkx']; exact hr
            · have hz := Nat.eq_of_beq_eq_true hkx'
              rcases hk0 with rfl | hk0
              · simpa [TV.relR] using hr
              · omega
          have hlen := TV.relR_length hr'
          split at h
          · obtain ⟨hby, hml, h⟩ := h
            simp only [AV.rel, TV.rel] at hb
            obtain ⟨hbe, _⟩ := hb
            obtain ⟨v', w', r1, r2, r3, r4⟩ := run_append (P := P) (ty := o.type) C.tok ht rfl hei hpos w.heap.size (Nat.le_refl _) (World.ownsRow_nil w w.heap.size e ei.size) hlen h1 hA (c := c) (by simpa using hml) (by simpa using hby)
            simp only [Nat.zero_add, List.nil_append] at r2
            have hbel : Below w.heap.size w w' := ⟨r3.os, r3.tape, r3.output, r3.size, fun i hi => r3.block i hi (by simp [Value.ownBlock])⟩
            have hob : ∀ g, obk v' = some g → g = w.heap.size := by
              intro g hg
              obtain ⟨A', c', he'⟩ := ownsRow_slice r2
              rw [← ownsRow_ownBlock_obk v' ⟨A', _, c', he'⟩] at hg
              rcases r4 with r4 | r4
              · rw [r4] at hg; simp [Value.ownBlock] at hg
              · rw [r4] at hg; exact (Option.some.inj hg).symm
            refine goes_lay (x := v') (k := ei.size) (y := v') h S ?_ ?_ ?_ (w' := w')
            · simp [execOp, ho, resolve, has, hts, invoke, builtin, hbe, hxe, r1]
            · intro d hd
              refine heap_row S d e ei.size news v' us hpos hbel r2 (TV.relR_keep ?_ _ _ _ hr') h1
              intro b' hb' hlt
              exact ⟨⟨hb', fun e' => by have := hob b' e'; omega⟩, hbel.block b' hlt⟩
            · intro d hd
              simp only [AV.rel]
              obtain ⟨A', c', he'⟩ := ownsRow_slice r2
              exact ⟨(upd_same _ _ _).symm, A', _, c', by rw [upd_same]; exact he'⟩
          · rename_i l
            split at h
            · rename_i e' k es hl
              cases hek : Nat.beq e e' && Nat.beq k ei.size with
              | false => simp [hek] at h
              | true =>
                simp only [hek, cond_true] at h
                simp only [Bool.and_eq_true] at hek
                have hee := Nat.eq_of_beq_eq_true hek.1
                have hke := Nat.eq_of_beq_eq_true hek.2
                subst hee
                subst hke
                obtain ⟨hby, hml, h⟩ := h
                rw [killK_eq] at h
                simp only [AV.rel] at hb
                obtain ⟨hbe, Ab, nb, cb, hmb⟩ := hb
                obtain ⟨us0, hown, hr0, h10, hk00, hkk0⟩ := S.ob l _ hl
                obtain ⟨v', w', r1, r2, r3, r4⟩ := run_append (P := P) (ty := o.type) C.tok ht rfl hei hpos 0 (Nat.zero_le _) hown.1 hlen h1 hA (c := c) hml hby
                have hobm : (m l).ownBlock = obk (m l) := ownsRow_ownBlock_obk _ ⟨Ab, nb, cb, hmb⟩
                obtain ⟨A', c', he'⟩ := ownsRow_slice r2
                have hobv : v'.ownBlock = obk v' := ownsRow_ownBlock_obk _ ⟨A', _, c', he'⟩
                have hlay := Heap.lay (w' := w') S.toHeap l v' ei.size (.row e ei.size (es ++ news))
                  (fun b' hb' hne => r3.block b' hb' (fun e' => hne _ hl (by rw [← hobm]; exact e'.symm))) r3.size r3.os r3.tape r3.output
                  (by
                    intro g hg
                    rw [← hobv] at hg
                    rcases r4 with r4 | r4
                    · right; exact ⟨_, hl, by rw [← hobm, ← r4]; exact hg⟩
                    · left; rw [r4] at hg; injection hg with hg; omega)
                  (by
                    refine ⟨us0 ++ us, ⟨by rw [upd_same]; simpa using r2, fun g hg => ?_⟩, ?_, ?_, hk00, upd_same _ _ _⟩
                    · rw [upd_same, ← hobv] at hg
                      rcases r4 with r4 | r4
                      · exact hown.2 g (by rw [← hobm, ← r4]; exact hg)
                      · rw [r4] at hg; injection hg with hg; exact hsz0 _ (by omega)
                    · have hkp : Keeps w (Fc F0 B0 s.σ m) w' (Fc F0 B0 ((l, .row e ei.size (es ++ news)) :: killS l s.σ) (upd m l v')) := by
                        intro b' hb' hlt
                        refine ⟨⟨hb'.1, ?_⟩, r3.block b' hlt (fun e' => hb'.2 l _ hl (by rw [← hobm]; exact e'.symm))⟩
                        intro l' o' hl'
                        rw [look_cons] at hl'
                        by_cases hll : l' = l
                        · subst hll; rw [upd_same]
                          intro e'
                          rw [← hobv] at e'
                          rcases r4 with r4 | r4
                          · exact hb'.2 l' _ hl (by rw [← hobm, ← r4]; exact e')
                          · rw [r4] at e'; injection e' with e'; omega
                        · simp only [hll, if_false, look_killS] at hl'
                          rw [upd_ne _ _ hll]
                          cases hq : look l' s.σ with
                          | none => simp [hq] at hl'
                          | some q => exact hb'.2 l' q hq
                      exact TV.relR_append (TV.relR_keep hkp _ _ _ hr0) (TV.relR_keep hkp _ _ _ hr')
                    · intro u hu
                      simp only [List.mem_append] at hu
                      rcases hu with hu | hu
                      · exact h10 u hu
                      · exact h1 u hu)
                obtain ⟨H', hkp⟩ := hlay
                have S' : Sim N B0 F0 w0 ⟨killF l s.φ, (l, .row e ei.size (es ++ news)) :: killS l s.σ⟩ (upd m l v') (upd kk l ei.size) a w' := by
                  refine ⟨H', ?_, S.df, S.sz⟩
                  intro t' u hu
                  simp only [look_killF] at hu
                  cases hq : look t' s.φ with
                  | none => simp [hq] at hu
                  | some u' =>
                    simp only [hq, Option.map_some, Option.some.injEq] at hu
                    subst hu
                    exact AV.rel_kill hkp (fun l' h => ⟨upd_ne _ _ h, upd_ne _ _ h⟩) (S.fr t' u' hq)
                refine goes_value (y := v') h S' ?_ ?_
                · simp only [AV.rel]
                  exact ⟨(upd_same _ _ _).symm, A', _, c', by rw [upd_same]; exact he'⟩
                · simp [execOp, ho, resolve, has, hts, invoke, builtin, hbe, hxe, r1]
            · exact h.elim
          · exact h.elim
      · exact h.elim
    · exact h.elim

theorem allLen_spec {k : Nat} : ∀ {es : List (List TV)}, allLen k es = true → ∀ e ∈ es, e.length = k
  | [], _, e, h => by simp at h
  | x :: r, h, e, he => by
    simp only [allLen, Bool.and_eq_true] at h
    rcases List.mem_cons.1 he with rfl | he
    · exact Nat.eq_of_beq_eq_true h.1
    · exact allLen_spec h.2 e he

theorem relR_cells {F : Nat → Prop} {k : Nat} : ∀ {xs : List TV} {us : List Value} {es : List (List TV)}, TV.relL w F xs us → mapO cellsT xs = some es → allLen k es = true →
    TV.relR w F k es (us.flatMap fun u => u.cells.toList) ∧ OneAll (us.flatMap fun u => u.cells.toList) ∧ (∀ u ∈ us, u.cells.size = k) ∧ es.length = us.length
  | [], us, es, h, he, _ => by
    simp only [mapO, Option.some.injEq] at he; subst he
    simp only [TV.relL] at h; subst h
    exact ⟨by simp [TV.relR], fun u hu => by simp at hu, fun u hu => by simp at hu, rfl⟩
  | x :: xs, us, es, h, he, hl => by
    simp only [mapO] at he
    split at he
    · rename_i c cs hc hcs
      injection he with he; subst he
      simp only [TV.relL] at h
      obtain ⟨u, us', rfl, h0, h1⟩ := h
      simp only [allLen, Bool.and_eq_true] at hl
      obtain ⟨i1, i2, i3, i4⟩ := relR_cells h1 hcs hl.2
      obtain ⟨j1, j2⟩ := rel_cellsT (fun _ => .nilFunc) (fun _ => 0) h0 hc
      have hck := Nat.eq_of_beq_eq_true hl.1
      refine ⟨?_, ?_, ?_, by simp [i4]⟩
      · simp only [TV.relR, List.flatMap_cons]
        exact ⟨_, _, rfl, hck, j1, i1⟩
      · intro u' hu'
        simp only [List.flatMap_cons, List.mem_append] at hu'
        rcases hu' with hu' | hu'
        · exact j2 u' hu'
        · exact i2 u' hu'
      · intro u' hu'
        rcases List.mem_cons.1 hu' with rfl | hu'
        · have := TV.relL_length j1; simp at this; omega
        · exact i3 u' hu'
    · cases he

theorem fill_seq (k : Nat) : ∀ (us : List Value) (i : Nat) (cells : Array Value), (∀ u ∈ us, u.cells.size = k) → (i + us.length) * k ≤ cells.size →
    ∃ cells', Instr.fill (fun i => some (i * k, k)) cells ((us.zipIdx i).map fun p => (p.2, p.1)) = some cells' ∧ cells'.toList = cells.toList.take (i * k) ++ us.flatMap (fun u => u.cells.toList) ++ cells.toList.drop ((i + us.length) * k)
  | [], i, cells, _, _ => ⟨cells, rfl, by simp⟩
  | u :: us, i, cells, hk, hl => by
    have hu := hk u (by simp)
    simp only [List.length_cons] at hl
    have e0 : (i + (us.length + 1)) * k = i * k + us.length * k + k := by rw [Nat.add_mul, Nat.add_mul]; omega
    have hput := foldl_put (i * k) u.cells.toList 0 cells (by simp; rw [hu]; omega)
    have hfold : (u.cells.zipIdx.foldl (fun (cs : Array Value) (p : Value × Nat) => cs.setIfInBounds (i * k + p.2) p.1) cells).toList = cells.toList.take (i * k) ++ u.cells.toList ++ cells.toList.drop (i * k + k) := by
      rw [← Array.foldl_toList, Array.toList_zipIdx]
      have : u.cells.toList.length = k := by simpa using hu
      simpa [this, hu] using hput
    have hsz : (u.cells.zipIdx.foldl (fun (cs : Array Value) (p : Value × Nat) => cs.setIfInBounds (i * k + p.2) p.1) cells).size = cells.size := by
      rw [← Array.length_toList, hfold]
      simp; rw [hu]; omega
    have hidx : i + 1 + us.length = i + (us.length + 1) := by omega
    obtain ⟨cells', h1, h2⟩ := fill_seq k us (i + 1) _ (fun u' hu' => hk u' (by simp [hu'])) (by rw [hsz, hidx]; exact hl)
    refine ⟨cells', ?_, ?_⟩
    · simp only [List.zipIdx_cons, List.map_cons, Instr.fill]
      rw [if_neg (by simp [hu]; omega)]
      exact h1
    · rw [h2, hfold]
      have hlen : (cells.toList.take (i * k) ++ u.cells.toList).length = (i + 1) * k := by
        simp [hu]; rw [Nat.add_mul]; omega
      have e1 : (i + 1 + us.length) * k = (i + 1) * k + us.length * k := by rw [Nat.add_mul]
      rw [e1, ← hlen, List.take_left, ← List.drop_drop, List.drop_left, List.drop_drop]
      have e2 : i * k + k + us.length * k = (i + (us.length + 1)) * k := by omega
      simp only [List.flatMap_cons, List.length_cons, e2, List.append_assoc]

/-- A literal of a slice, carried out. -/
theorem lit_run (C : Ctx P T) {a : Act} {F : Nat → Prop} {t e : TypeId} {ti ei : TI} (ht : T t = some ti) (hdd : ti.d = .slice e) (hei : T e = some ei) {o : Oper} {n : Nat} {parts : Array (Nat × Operand)} (ho : o.op = .buildSlice t n parts)
    {xs : List TV} (hxr : TV.relL w F xs ((parts.toList.map (·.2)).map a.eval)) {es : List (List TV)} (hes : mapO cellsT xs = some es)
    (hb : (seqFrom 0 parts.toList && Nat.beq parts.toList.length n && allLen ei.size es && Nat.ble (n * ei.size) 16777216 && Nat.blt 0 ei.size) = true) :
    ∃ cells' us, (execOp a.eval o).run P w = .ok (.value (.slice (some ⟨w.heap.size, 0, none⟩) n n)) (w.alloc (.cells cells' e)) ∧ es.length = n ∧ TV.relR w F ei.size es us ∧ OneAll us ∧
      CellsAt (w.alloc (.cells cells' e)) ⟨w.heap.size, 0, none⟩ us ∧ n ≤ maxLen ∧ 0 < ei.size := by
  simp only [Bool.and_eq_true] at hb
  obtain ⟨⟨⟨⟨b1, b2⟩, b3⟩, b4⟩, b5⟩ := hb
  have hn := Nat.eq_of_beq_eq_true b2
  have hlim := Nat.le_of_ble_eq_true b4
  have hpos : 0 < ei.size := Nat.le_of_ble_eq_true b5
  obtain ⟨r1, r2, r3, r4⟩ := relR_cells hxr hes b3
  obtain ⟨d, hd, hun⟩ := C.tok.under (w := w) ht
  rw [hdd] at hd
  simp only [Ty.fits] at hd; subst hd
  obtain ⟨zv, hz, hz2, hz3⟩ := C.tok.zero (w := w) hei
  generalize hus : (parts.toList.map (·.2)).map a.eval = us at *
  have hul : us.length = n := by rw [← hus]; simpa using hn
  have hseq : ∀ (l : List (Nat × Operand)) (i : Nat), seqFrom i l = true → l.map (fun p => (p.1, a.eval p.2)) = (((l.map (·.2)).map a.eval).zipIdx i).map fun p => (p.2, p.1) := by
    intro l
    induction l with
    | nil => intro i _; rfl
    | cons p l ih =>
      intro i hi
      obtain ⟨pi, px⟩ := p
      simp only [seqFrom, Bool.and_eq_true] at hi
      have := Nat.eq_of_beq_eq_true hi.1; subst this
      simp only [List.map_cons, List.zipIdx_cons]
      rw [ih _ hi.2]
  have hmap : (parts.map fun p => (p.1, a.eval p.2)).toList = (us.zipIdx 0).map fun p => (p.2, p.1) := by
    rw [Array.toList_map, hseq _ 0 b1, hus]
  let z0 : Array Value := if n * ei.size = 0 then #[] else zv.cells
  obtain ⟨cells', hf, hcl⟩ := fill_seq ei.size us 0 ((Array.range (n * ei.size)).map fun i => z0[i % z0.size]!) r3 (by simp [hul])
  have hcl' : cells' = (us.flatMap fun u => u.cells.toList).toArray := by
    have : cells'.toList = us.flatMap fun u => u.cells.toList := by
      rw [hcl]; simp [hul]
    rw [← this]
  have hrun : (execOp a.eval o).run P w = .ok (.value (.slice (some ⟨w.heap.size, 0, none⟩) n n)) (w.alloc (.cells cells' e)) := by
    have hnl : ¬ n * ei.size > 2 ^ 24 := by show ¬ n * ei.size > 16777216; omega
    have hm2 : (Array.map (fun x => (x.fst, a.eval x.snd)) parts).toList = (us.zipIdx 0).map fun p => (p.2, p.1) := hmap
    by_cases h0 : n * ei.size = 0
    · have hz0 : z0 = #[] := by simp only [z0, h0, if_true]
      rw [hz0] at hf
      have hr0 : Array.range 0 = #[] := rfl
      simp only [execOp, ho, Sem.run_bind, Instr.buildSlice, hun, C.tok.size hei, Result.andThen_ok, Sem.run_ite, Sem.run_pure, h0, if_true, hm2]
      rw [h0, hr0] at hf
      simp only [Array.map_empty] at hf
      simp [hf, newRow, hr0]
    · have hz0 : z0 = zv.cells := by simp only [z0, h0, if_false]
      rw [hz0] at hf
      simp only [execOp, ho, Sem.run_bind, Instr.buildSlice, hun, C.tok.size hei, Result.andThen_ok, Sem.run_ite, hnl, if_false, Sem.run_pure, h0, hz, hm2]
      simp [hf, newRow]
  have hlen : es.length = n := by rw [r4, hul]
  have hcell : CellsAt (w.alloc (.cells cells' e)) ⟨w.heap.size, 0, none⟩ (us.flatMap fun u => u.cells.toList) := by
    rw [hcl']; exact cellsAt_block (heap_alloc_new w _)
  have hflat : (us.flatMap fun u => u.cells.toList).length = n * ei.size := by rw [TV.relR_length r1, hlen]
  have hmax : n ≤ maxLen := by
    have : n ≤ n * ei.size := Nat.le_mul_of_pos_right n hpos
    simp only [maxLen]; omega
  exact ⟨cells', _, hrun, hlen, r1, r2, hcell, hmax, hpos⟩

theorem buildSlice_goes (C : Ctx P T) {own : List Nat} {o : Oper} {a : Act} {s : St} {K : St → Prop} (S : Sim N B0 F0 w0 s m kk a w) {t : TypeId} {n : Nat} {parts : Array (Nat × Operand)} (ho : o.op = .buildSlice t n parts)
    {lk : Operand → Option AV} (hl : ∀ x v, lk x = some v → v.rel w (Fc F0 B0 s.σ m) m kk (a.eval x)) (h : buildSliceK T own N o.dst t n parts.toList lk s K) : Goes P N B0 F0 w0 o a w K := by
  have hsz0 := S.newB
  unfold buildSliceK at h
  split at h
  · rename_i e sz by' z q ht
    split at h
    · rename_i ei vs hei hvs
      obtain ⟨xs, s', hfr, h⟩ := freezeK_spec h
      · split at h
        · rename_i es hes
          cases hb : seqFrom 0 parts.toList && Nat.beq parts.toList.length n && allLen ei.size es && Nat.ble (n * ei.size) 16777216 && Nat.blt 0 ei.size with
          | false => rw [hb] at h; exact h.elim
          | true =>
            simp only [hb, cond_true] at h
            simp only [Bool.and_eq_true] at hb
            obtain ⟨⟨⟨⟨b1, b2⟩, b3⟩, b4⟩, b5⟩ := hb
            have hn := Nat.eq_of_beq_eq_true b2
            have hlim := Nat.le_of_ble_eq_true b4
            have hpos : 0 < ei.size := Nat.le_of_ble_eq_true b5
            obtain ⟨S', hxr⟩ := S.freeze hfr (lkAll_rel hl _ _ hvs)
            obtain ⟨r1, r2, r3, r4⟩ := relR_cells hxr hes b3
            obtain ⟨d, hd, hun⟩ := C.tok.under (w := w) ht
            simp only [Ty.fits] at hd; subst hd
            obtain ⟨zv, hz, hz2, hz3⟩ := C.tok.zero (w := w) hei
            generalize hus : (parts.toList.map (·.2)).map a.eval = us at *
            have hul : us.length = n := by rw [← hus]; simpa using hn
            have hseq : ∀ (l : List (Nat × Operand)) (i : Nat), seqFrom i l = true → l.map (fun p => (p.1, a.eval p.2)) = (((l.map (·.2)).map a.eval).zipIdx i).map fun p => (p.2, p.1) := by
              intro l
              induction l with
              | nil => intro i _; rfl
              | cons p l ih =>
                intro i hi
                obtain ⟨pi, px⟩ := p
                simp only [seqFrom, Bool.and_eq_true] at hi
                have := Nat.eq_of_beq_eq_true hi.1; subst this
                simp only [List.map_cons, List.zipIdx_cons]
                rw [ih _ hi.2]
            have hmap : (parts.map fun p => (p.1, a.eval p.2)).toList = (us.zipIdx 0).map fun p => (p.2, p.1) := by
              rw [Array.toList_map, hseq _ 0 b1, hus]
            let z0 : Array Value := if n * ei.size = 0 then #[] else zv.cells
            obtain ⟨cells', hf, hcl⟩ := fill_seq ei.size us 0 ((Array.range (n * ei.size)).map fun i => z0[i % z0.size]!) r3 (by simp [hul])
            have hcl' : cells' = (us.flatMap fun u => u.cells.toList).toArray := by
              have : cells'.toList = us.flatMap fun u => u.cells.toList := by
                rw [hcl]; simp [hul]
              rw [← this]
            have hrun : (execOp a.eval o).run P w = .ok (.value (.slice (some ⟨w.heap.size, 0, none⟩) n n)) (w.alloc (.cells cells' e)) := by
              have hnl : ¬ n * ei.size > 2 ^ 24 := by show ¬ n * ei.size > 16777216; omega
              have hm2 : (Array.map (fun x => (x.fst, a.eval x.snd)) parts).toList = (us.zipIdx 0).map fun p => (p.2, p.1) := hmap
              by_cases h0 : n * ei.size = 0
              · have hz0 : z0 = #[] := by simp only [z0, h0, if_true]
                rw [hz0] at hf
                have hr0 : Array.range 0 = #[] := rfl
                simp only [execOp, ho, Sem.run_bind, Instr.buildSlice, hun, C.tok.size hei, Result.andThen_ok, Sem.run_ite, Sem.run_pure, h0, if_true, hm2]
                rw [h0, hr0] at hf
                simp only [Array.map_empty] at hf
                simp [hf, newRow, hr0]
              · have hz0 : z0 = zv.cells := by simp only [z0, h0, if_false]
                rw [hz0] at hf
                simp only [execOp, ho, Sem.run_bind, Instr.buildSlice, hun, C.tok.size hei, Result.andThen_ok, Sem.run_ite, hnl, if_false, Sem.run_pure, h0, hz, hm2]
                simp [hf, newRow]
            have hlen : es.length = n := by rw [r4, hul]
            have hcell : CellsAt (w.alloc (.cells cells' e)) ⟨w.heap.size, 0, none⟩ (us.flatMap fun u => u.cells.toList) := by
              rw [hcl']; exact cellsAt_block (heap_alloc_new w _)
            have hflat : (us.flatMap fun u => u.cells.toList).length = n * ei.size := by rw [TV.relR_length r1, hlen]
            have hbel := below_alloc w (.cells cells' e)
            have hkp : Keeps w (Fc F0 B0 s'.σ m) (w.alloc (.cells cells' e)) (Fc F0 B0 s'.σ m) := Keeps.below hbel (Nat.le_refl _) (fun _ h _ => h)
            have hmax : n ≤ maxLen := by
              have : n ≤ n * ei.size := Nat.le_mul_of_pos_right n hpos
              simp only [maxLen]; omega
            split at h
            · rename_i d' hd'
              cases hown : mem d' own with
              | true =>
                simp only [hown, cond_true] at h
                refine goes_lay (x := .slice (some ⟨w.heap.size, 0, none⟩) n n) (k := ei.size) h S' hrun ?_ ?_
                · intro d hd
                  refine heap_row S' d e ei.size es _ _ hpos hbel ?_ (TV.relR_keep ?_ _ _ _ r1) r2
                  · refine ⟨by rw [hflat, hlen], .inr ⟨w.heap.size, n, cells', by rw [hlen], Nat.le_refl _, heap_alloc_new w _, by rw [hlen]; exact Nat.le_refl _, hmax, ?_, ?_⟩⟩
                    · rw [hcl', List.size_toArray, hflat]
                    · rw [hcl', hlen, ← hflat]; simp only [List.take_length]
                  · intro b hb hlt
                    exact ⟨⟨hb, by simp [obk]; omega⟩, hbel.block b hlt⟩
                · intro d hd
                  simp only [AV.rel]
                  exact ⟨(upd_same _ _ _).symm, _, _, _, upd_same _ _ _⟩
              | false =>
                simp only [hown, cond_false] at h
                refine goes_value h (S'.grow hbel) ?_ hrun
                simp only [AV.rel, TV.rel]
                refine ⟨_, n, _, by rw [hlen], by rw [hlen]; exact Nat.le_refl _, hmax, hpos, TV.relR_keep hkp _ _ _ r1, r2, ?_⟩
                by_cases hne : (us.flatMap fun u => u.cells.toList) = []
                · exact .inl hne
                · refine .inr ⟨_, rfl, ⟨.inr (hsz0 _ (Nat.le_refl _)), ?_⟩, hcell⟩
                  intro l o' hl' e'
                  exact absurd (AO.blk_lt (S'.ob l o' hl') e').2 (Nat.lt_irrefl _)
            · exact h.elim
        · exact h.elim
    · exact h.elim
  · exact h.elim
end
end Go.Proofs.Ytpakohboamfmjab.Pl
