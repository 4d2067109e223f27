/- Arguments: a form is a tree. -/
import Derived.Test.YtnapockpjklanaaGreatDoorFmD
import Derived.Test.YtnapockpjklanaaGreatDoorFmC
import Derived.Test.YtnapockpjklanaaGreatDoorFmA
import Derived.Test.YtnapockpjklanaaGreatDoorPlE
noncomputable section
set_option linter.all false
namespace Go.Proofs.YtnapockpjklanaaGreatDoor.Lit
open Go Go.RowKit Go.Proofs.YtnapockpjklanaaGreatDoor.Pl
set_option linter.unusedSectionVars false
variable [Gm]
set_option maxRecDepth 10000
theorem form_ent : Ent Tryz.prog 14 := fun a w => Tryz.call14 a w
theorem shaped_ent : Ent Tryz.prog 5 := fun a w => Tryz.call5 a w
theorem shaped_leaf (k n : Int) (t : ByteArray) (ks : List Fm) (hk : k ≠ 3) : PC Tryz.prog 5 [(Fm.mk k n t ks).enc] (tB (k != 2)) := by
  refine PC.of_ok tok Tryz.func5 rfl (Nat.le_of_ble_eq_true rfl) (ev_sound ctx (own := []) _ _ _ ?_)
  refine ⟨fun _ => rfl, fun h => absurd h (by simp [hk])⟩
theorem shaped_bad (n : Int) (t : ByteArray) (ks : List Fm) (hf : PC Tryz.prog 14 [(Fm.mk 3 n t ks).enc] (tB false)) : PC Tryz.prog 5 [(Fm.mk 3 n t ks).enc] (tB false) := by
  refine PC.of_ok tok Tryz.func5 rfl (Nat.le_of_ble_eq_true rfl) (ev_sound ctx (own := []) _ _ _ ?_)
  refine ⟨fun h => absurd h (by simp), fun _ => ?_⟩
  refine ⟨form_ent, .inl ⟨_, hf, ?_⟩⟩
  exact ⟨fun _ => rfl, fun h => absurd h (by simp)⟩
theorem shaped_inner (n : Int) (t : ByteArray) (ks : List Fm) (hfm : PC Tryz.prog 14 [(Fm.mk 3 n t ks).enc] (tB true)) (hq : PC Tryz.prog 15 [(Fm.mk 3 n t ks).enc] (.tup [encs [], encs [], f0.enc, tB false]))
    (js : List Nat) (hi : PC Tryz.prog 16 [(Fm.mk 3 n t ks).enc] (encN js)) (hjs : ∀ j ∈ js, j < ks.length) (hjl : js.length ≤ maxLen) (B : Fm → Bool) (hB : ∀ g ∈ ks, PC Tryz.prog 5 [g.enc] (tB (B g))) :
    PC Tryz.prog 5 [(Fm.mk 3 n t ks).enc] (tB (js.all fun j => B (ks.getD j f0))) := by
  refine PC.of_ok tok Tryz.func5 rfl (Nat.le_of_ble_eq_true rfl) (ev_sound ctx (own := []) _ _ _ ?_)
  refine ⟨fun h => absurd h (by simp), fun _ => ?_⟩
  refine ⟨form_ent, .inl ⟨_, hfm, ?_⟩⟩
  refine ⟨fun h => absurd h (by simp), fun _ => ?_⟩
  refine ⟨quant_ent, .inl ⟨_, hq, ?_⟩⟩
  refine ⟨fun h => absurd h (by simp), fun _ => ?_⟩
  refine ⟨inner_ent, .inl ⟨_, hi, ?_⟩⟩
  refine Ok.loop (st := fun i : Nat => ⟨[(10, vi i), (9, .t (encN js)), (1, .ptr 1 0)], [(1, .var [.t (tI 3), .t (tI n), .t (tS t), .t (encs ks)])]⟩)
    (R := fun i => i ≤ js.length ∧ ∀ p (hp : p < js.length), p < i → B (ks.getD js[p] f0) = true) (μ := fun i => js.length - i) 0 (Wk.sub ⟨rfl, rfl, rfl, trivial⟩ ⟨rfl, trivial⟩) ⟨Nat.zero_le _, fun p _ h => absurd h (Nat.not_lt_zero p)⟩ ?_
  rintro i ⟨hil, hno⟩
  refine ev_sound ctx (own := []) _ _ _ ?_
  refine ⟨fun h => ?_, fun h => ?_⟩
  · have h : decide ((i : Int) < ((js.map cI).length : Int)) = true := h
    rw [List.length_map] at h
    have hlt := ltOf h
    have hget : (0 : Int) ≤ (i : Int) ∧ (js.map cI)[((i : Int)).toNat]? = some (cI js[i]) := getM hlt
    have hjl' := hjs _ (List.getElem_mem hlt)
    have hgo : B (ks.getD js[i] f0) = true → ∀ p (hp : p < js.length), p < i + 1 → B (ks.getD js[p] f0) = true := fun hg p hp hpi => by
      rcases Nat.lt_or_ge p i with h1 | h1
      · exact hno p hp h1
      · have : p = i := by omega
        subst this; exact hg
    have hbad : B (ks.getD js[i] f0) = false → (js.all fun j => B (ks.getD j f0)) = false := fun hb => by
      rw [List.all_eq_false]
      exact ⟨js[i], List.getElem_mem hlt, by rw [hb]; simp⟩
    generalize js[i] = j at hget hjl' hgo hbad
    have hk := rows_get hjl'
    have hBk := hB _ (List.getElem_mem hjl')
    have e : ks.getD j f0 = ks[j] := by simp [List.getD, List.getElem?_eq_getElem hjl']
    rw [e] at hgo hbad
    generalize ks[j] = g at hk hBk hgo hbad
    generalize B g = bg at hBk hgo hbad
    obtain ⟨gk, gn, gt, gs⟩ := g
    refine ⟨_, fun _ => hget, _, fun _ => hk, ?_⟩
    refine ⟨shaped_ent, _, fun _ => hBk, ?_⟩
    refine ⟨fun h => ?_, fun h => ?_⟩
    · refine toEq ?_
      rw [hbad (by simpa using h)]; rfl
    · exact ⟨trivial, i + 1, Wk.sub ⟨slotI (wr1 hlt hjl), rfl, rfl, trivial⟩ ⟨rfl, trivial⟩, ⟨hlt, hgo (by simpa using h)⟩, dec hlt⟩
  · have h : decide ((i : Int) < ((js.map cI).length : Int)) = false := h
    rw [List.length_map] at h
    have hge := geOf h
    have : (js.all fun j => B (ks.getD j f0)) = true := by
      rw [List.all_eq_true]
      intro j hj
      obtain ⟨p, hp, rfl⟩ := List.getElem_of_mem hj
      exact hno p hp (by omega)
    refine toEq ?_
    rw [this]; rfl
/-- Are the kids of one trigger, from the j-th on, all so? -/
def trigB (B : Fm → Bool) (g : Fm) : Bool := (g.kids.drop 1).all B
theorem shaped_q (n : Int) (t : ByteArray) (ks vs ts : List Fm) (body : Fm) (hfm : PC Tryz.prog 14 [(Fm.mk 3 n t ks).enc] (tB true)) (hq : PC Tryz.prog 15 [(Fm.mk 3 n t ks).enc] (.tup [encs vs, encs ts, body.enc, tB true]))
    (htl : ts.length ≤ maxLen) (hgl : ∀ g ∈ ts, g.kids.length ≤ maxLen) (B : Fm → Bool) (hB : ∀ g ∈ ts, ∀ x ∈ g.kids, PC Tryz.prog 5 [x.enc] (tB (B x))) (hb : PC Tryz.prog 5 [body.enc] (tB (B body))) :
    PC Tryz.prog 5 [(Fm.mk 3 n t ks).enc] (tB (ts.all (trigB B) && B body)) := by
  obtain ⟨bk, bn, bt, bs⟩ := body
  refine PC.of_ok tok Tryz.func5 rfl (Nat.le_of_ble_eq_true rfl) (ev_sound ctx (own := []) _ _ _ ?_)
  refine ⟨fun h => absurd h (by simp), fun _ => ?_⟩
  refine ⟨form_ent, .inl ⟨_, hfm, ?_⟩⟩
  refine ⟨fun h => absurd h (by simp), fun _ => ?_⟩
  refine ⟨quant_ent, .inl ⟨_, hq, ?_⟩⟩
  refine ⟨fun _ => ?_, fun h => absurd h (by simp)⟩
  refine Ok.loop (st := fun i : Nat => ⟨[(7, vi i), (5, .ptr 5 0), (4, .t (encs ts))], [(5, .var [.t (tI bk), .t (tI bn), .t (tS bt), .t (encs bs)])]⟩)
    (R := fun i => i ≤ ts.length ∧ ∀ p (hp : p < ts.length), p < i → trigB B ts[p] = true) (μ := fun i => ts.length - i) 0 (Wk.sub ⟨rfl, rfl, rfl, trivial⟩ ⟨rfl, trivial⟩) ⟨Nat.zero_le _, fun p _ h => absurd h (Nat.not_lt_zero p)⟩ ?_
  rintro i ⟨hil, hno⟩
  refine ev_sound ctx (own := []) _ _ _ ?_
  refine ⟨fun h => ?_, fun h => ?_⟩
  · have h : decide ((i : Int) < ((rows ts).length : Int)) = true := h
    rw [rows_len] at h
    have hlt := ltOf h
    have hget := rows_get hlt
    have hgo : trigB B ts[i] = true → ∀ p (hp : p < ts.length), p < i + 1 → trigB B ts[p] = true := fun hg p hp hpi => by
      rcases Nat.lt_or_ge p i with h1 | h1
      · exact hno p hp h1
      · have : p = i := by omega
        subst this; exact hg
    have hbad : trigB B ts[i] = false → ts.all (trigB B) = false := fun hb => by
      rw [List.all_eq_false]
      exact ⟨ts[i], List.getElem_mem hlt, by rw [hb]; simp⟩
    have hBg := hB _ (List.getElem_mem hlt)
    have hgl' := hgl _ (List.getElem_mem hlt)
    generalize hg : ts[i] = g at hget hgo hbad hBg hgl'
    obtain ⟨gk, gn, gt, gs⟩ := g
    refine Ok.loop (st := fun j : Nat => ⟨[(8, vi j), (7, vi i), (5, .ptr 5 0), (4, .t (encs ts))], [(5, .var [.t (tI bk), .t (tI bn), .t (tS bt), .t (encs bs)])]⟩)
      (R := fun j => 1 ≤ j ∧ ∀ p (hp : p < gs.length), 1 ≤ p → p < j → B gs[p] = true) (μ := fun j => gs.length - j) 1 (Wk.sub ⟨rfl, rfl, rfl, rfl, trivial⟩ ⟨rfl, trivial⟩) ⟨Nat.le_refl _, fun p _ h1 h2 => by omega⟩ ?_
    rintro j ⟨hj1, hjo⟩
    refine ev_sound ctx (own := []) _ _ _ ?_
    refine ⟨_, hget, ?_⟩
    refine ⟨fun h => ?_, fun h => ?_⟩
    · have h : decide ((j : Int) < ((rows gs).length : Int)) = true := h
      rw [rows_len] at h
      have hlj := ltOf h
      have hk := rows_get hlj
      have hBk := hBg _ (List.getElem_mem hlj)
      have hgo2 : B gs[j] = true → ∀ p (hp : p < gs.length), 1 ≤ p → p < j + 1 → B gs[p] = true := fun hg p hp h1 hpj => by
        rcases Nat.lt_or_ge p j with h2 | h2
        · exact hjo p hp h1 h2
        · have : p = j := by omega
          subst this; exact hg
      have hbad2 : B gs[j] = false → trigB B (.mk gk gn gt gs) = false := fun hb => by
        show (gs.drop 1).all B = false
        rw [List.all_eq_false]
        refine ⟨gs[j], ?_, by rw [hb]; simp⟩
        rw [List.mem_iff_getElem]
        refine ⟨j - 1, by simp; omega, ?_⟩
        simp only [List.getElem_drop]
        congr 1; omega
      generalize gs[j] = y at hk hBk hgo2 hbad2
      generalize B y = by' at hBk hgo2 hbad2
      obtain ⟨yk, yn, yt, ys⟩ := y
      refine ⟨_, hget, _, hk, ?_⟩
      refine ⟨shaped_ent, .inl ⟨_, hBk, ?_⟩⟩
      refine ⟨fun h => ?_, fun h => ?_⟩
      · refine toEq ?_
        rw [hbad (hbad2 (by simpa using h))]; rfl
      · exact ⟨trivial, j + 1, Wk.sub ⟨slotI (wr1 hlj hgl'), rfl, rfl, rfl, trivial⟩ ⟨rfl, trivial⟩, ⟨by omega, hgo2 (by simpa using h)⟩, dec hlj⟩
    · have h : decide ((j : Int) < ((rows gs).length : Int)) = false := h
      rw [rows_len] at h
      have hge := geOf h
      have hall : trigB B (.mk gk gn gt gs) = true := by
        show (gs.drop 1).all B = true
        rw [List.all_eq_true]
        intro x hx
        obtain ⟨p, hp, rfl⟩ := List.getElem_of_mem hx
        simp only [List.getElem_drop]
        simp at hp
        exact hjo _ (by omega) (by omega) (by omega)
      exact ⟨trivial, i + 1, Wk.sub ⟨slotI (wr1 hlt htl), rfl, rfl, trivial⟩ ⟨rfl, trivial⟩, ⟨hlt, hgo hall⟩, dec hlt⟩
  · have h : decide ((i : Int) < ((rows ts).length : Int)) = false := h
    rw [rows_len] at h
    have hge := geOf h
    have : ts.all (trigB B) = true := by
      rw [List.all_eq_true]
      intro g hg
      obtain ⟨p, hp, rfl⟩ := List.getElem_of_mem hg
      exact hno p hp (by omega)
    refine ⟨shaped_ent, .inl ⟨_, hb, ?_⟩⟩
    refine toEq ?_
    rw [this]; rfl
end Go.Proofs.YtnapockpjklanaaGreatDoor.Lit
end

noncomputable section
set_option linter.all false
namespace Go.Proofs.YtnapockpjklanaaGreatDoor.Lit
open Go Go.RowKit Go.Proofs.YtnapockpjklanaaGreatDoor.Pl
set_option linter.unusedSectionVars false
variable [Gm]
set_option maxRecDepth 10000
omit [Gm] in
theorem bnd_snd (l : List UInt8) (n : Nat) : (bnd l n).2 ≤ n ∨ (bnd l n).2 ≤ (bnd l n).1 := by
  unfold bnd
  split
  · exact .inl (Nat.le_refl _)
  split
  · exact .inl (Nat.min_le_left _ _)
  split
  · exact .inr (Nat.le_refl _)
  · exact .inl (Nat.le_refl _)
omit [Gm] in
theorem upTo_lt {a b n : Nat} (h : b ≤ n ∨ b ≤ a) : ∀ j ∈ upTo a b, j < n := by
  intro j hj
  unfold upTo at hj
  rw [List.mem_range'] at hj
  obtain ⟨i, hi, rfl⟩ := hj
  omega
omit [Gm] in
theorem upTo_len {a b n : Nat} (h : b ≤ n ∨ b ≤ a) : (upTo a b).length ≤ n := by
  unfold upTo
  rw [List.length_range']
  omega
omit [Gm] in
theorem inner_lt (f : Fm) : ∀ j ∈ innerOf f, j < f.kids.length := by
  unfold innerOf
  split
  · intro j hj; cases hj
  · exact upTo_lt (bnd_snd _ _)
omit [Gm] in
theorem inner_len (f : Fm) : (innerOf f).length ≤ f.kids.length := by
  unfold innerOf
  split
  · exact Nat.zero_le _
  · exact upTo_len (bnd_snd _ _)
open Classical in
noncomputable def Bof (g : Fm) : Bool := if h : ∃ b, PC Tryz.prog 5 [g.enc] (tB b) then Classical.choose h else false
theorem Bof_spec {g : Fm} (h : ∃ b, PC Tryz.prog 5 [g.enc] (tB b)) : PC Tryz.prog 5 [g.enc] (tB (Bof g)) := by
  unfold Bof; rw [dif_pos h]; exact Classical.choose_spec h
omit [Gm] in
theorem trigs_mem {f g : Fm} (h : g ∈ trigsOf f) : g ∈ f.kids := List.mem_of_mem_take (List.mem_of_mem_drop h)
omit [Gm] in
theorem trigs_len (f : Fm) : (trigsOf f).length ≤ f.kids.length := by
  unfold trigsOf; rw [List.length_drop, List.length_take]; omega
omit [Gm] in
theorem body_mem {f : Fm} (h : okQ f = true) : bodyOf f ∈ f.kids := by
  have hne : f.kids ≠ [] := by
    intro he
    have : isQ f = false := by unfold isQ; rw [he]; simp
    unfold okQ at h
    rw [this] at h; simp at h
  unfold bodyOf
  rw [List.getLastD_eq_getLast?, List.getLast?_eq_some_getLast hne]
  exact List.getLast_mem hne
theorem shaped_both (f : Fm) (hf : Fit f) : (∃ b, PC Tryz.prog 5 [f.enc] (tB b)) ∧ ∀ g ∈ f.kids, ∃ b, PC Tryz.prog 5 [g.enc] (tB b) := by
  induction hf with
  | @mk k n t ks hl hb hk ih =>
  refine ⟨?_, fun g hg => (ih g hg).1⟩
  by_cases h3 : k = 3
  · subst h3
    have hF : Fit (.mk 3 n t ks) := .mk hl hb hk
    obtain ⟨b, hfm⟩ := form_ex _ hF
    cases b with
    | false => exact ⟨_, shaped_bad n t ks hfm⟩
    | true =>
      have hq := quant_spec _ hF
      unfold quant at hq
      cases ho : okQ (.mk 3 n t ks) with
      | false =>
        rw [ho, if_neg (by simp)] at hq
        exact ⟨_, shaped_inner n t ks hfm hq (innerOf (.mk 3 n t ks)) (inner_spec _ hF) (inner_lt _) (Nat.le_trans (inner_len _) hl) Bof (fun g hg => Bof_spec (ih g hg).1)⟩
      | true =>
        rw [ho, if_pos rfl] at hq
        refine ⟨_, shaped_q n t ks _ _ _ hfm hq (Nat.le_trans (trigs_len _) hl) (fun g hg => ?_) Bof (fun g hg x hx => Bof_spec ((ih g (trigs_mem hg)).2 x hx)) (Bof_spec (ih _ (body_mem ho)).1)⟩
        have hg' := hk g (trigs_mem hg)
        cases hg' with | mk h _ _ => exact h
  · exact ⟨_, shaped_leaf k n t ks h3⟩
theorem shaped_ex (f : Fm) (hf : Fit f) : ∃ b, PC Tryz.prog 5 [f.enc] (tB b) := (shaped_both f hf).1
end Go.Proofs.YtnapockpjklanaaGreatDoor.Lit
end

noncomputable section
set_option linter.all false
namespace Go.Proofs.YtnapockpjklanaaGreatDoor.Lit
open Go Go.RowKit Go.Proofs.YtnapockpjklanaaGreatDoor.Pl
set_option linter.unusedSectionVars false
variable [Gm]
set_option maxRecDepth 10000
theorem sane_ent : Ent Tryz.prog 6 := fun a w => Tryz.call6 a w
theorem law_spec (f : Fm) (hf : Fit f) (hs : PC Tryz.prog 6 [] (tB true)) : PC Tryz.prog 3 [f.enc] (tB true) := by
  obtain ⟨bl, hl⟩ := large_spec [f] (.mk (by simp [maxLen]) (by simp) (fun g hg => by simp at hg; subst hg; exact hf))
  obtain ⟨bs, hsh⟩ := shaped_ex f hf
  have h8 := lit_spec f hf
  have h9 := rlit_spec f hf
  have h10 := opp_spec f hf
  have h11 := ropp_spec f hf
  have hfo : Fit (oppOf f) := lit_fit (fit_not hf)
  have h10b := opp_spec _ hfo
  rw [opp_opp] at h10b
  have e1 := eq_spec _ (lit_fit hf)
  have e2 := eq_spec _ hfo
  generalize litOf f = l at h8 h9 h10b e1
  generalize oppOf f = o at h10 h11 h10b e2
  obtain ⟨k, n, t, ks⟩ := f
  obtain ⟨lk, ln, lt, lks⟩ := l
  obtain ⟨ok, on, ot, oks⟩ := o
  refine PC.of_ok tok Tryz.func3 rfl (Nat.le_of_ble_eq_true rfl) (ev_sound ctx (own := []) _ _ _ ?_)
  refine ⟨large_ent, .inl ⟨_, hl, ?_⟩⟩
  refine ⟨shaped_ent, _, fun _ => hsh, ?_⟩
  refine ⟨fun h => ?_, fun h => ?_⟩
  · exact ⟨sane_ent, .inl ⟨_, hs, rfl⟩⟩
  · refine ⟨lit_ent, _, fun _ => h8, ?_⟩
    refine ⟨rlit_ent, _, fun _ => h9, ?_⟩
    refine ⟨eq_ent, _, fun _ => e1, ?_⟩
    refine ⟨opp_ent, _, fun _ => h10, ?_⟩
    refine ⟨ropp_ent, _, fun _ => h11, ?_⟩
    refine ⟨eq_ent, _, fun _ => e2, ?_⟩
    refine ⟨opp_ent, _, fun _ => h10, ?_⟩
    refine ⟨opp_ent, _, fun _ => h10b, ?_⟩
    refine ⟨lit_ent, _, fun _ => h8, ?_⟩
    refine ⟨eq_ent, _, fun _ => e1, ?_⟩
    refine ⟨sane_ent, _, fun _ => hs, ?_⟩
    exact rfl
end Go.Proofs.YtnapockpjklanaaGreatDoor.Lit
end

noncomputable section
set_option linter.all false
namespace Go.Proofs.YtnapockpjklanaaGreatDoor.Lit
open Go Go.RowKit Go.Proofs.YtnapockpjklanaaGreatDoor.Pl
set_option linter.unusedSectionVars false
variable [Gm]
theorem rows_leF : ∀ {es : List (List TV)}, (∀ r ∈ es, ∃ g : Fm, Fit g ∧ TV.leL r g.cells) → ∃ ks : List Fm, (∀ g ∈ ks, Fit g) ∧ TV.leR es (rows ks) ∧ ks.length = es.length
  | [], _ => ⟨[], (fun g hg => by cases hg), trivial, rfl⟩
  | r :: es, h => by
    obtain ⟨g, h1, h2⟩ := h r (by simp)
    obtain ⟨ks, k1, k2, k3⟩ := rows_leF (es := es) (fun r hr => h r (by simp [hr]))
    refine ⟨g :: ks, fun x hx => ?_, ⟨h2, k2⟩, by simp [k3]⟩
    rcases List.mem_cons.1 hx with rfl | hx
    · exact h1
    · exact k1 x hx
theorem fm_of : ∀ (n : Nat) (xs : List TV), HasTy tab n 24 xs → ∃ f : Fm, Fit f ∧ TV.leL xs f.cells
  | 0, _, h => h.elim
  | 1, _, h => by
    obtain ⟨a, b, rfl, ha, _⟩ := h
    exact ha.elim
  | n + 2, _, h => by
    obtain ⟨a, _, rfl, ha, b, _, rfl, hb, c, _, rfl, hc, d, _, rfl, hd, rfl⟩ := h
    obtain ⟨k, rfl, _⟩ := ha
    obtain ⟨m, rfl, _⟩ := hb
    obtain ⟨t, rfl, _⟩ := hc
    rcases hd with rfl | ⟨es, rfl, hl, hby, hr⟩
    · exact ⟨.mk k m t [], .mk (by simp) (by simp) (fun g hg => by cases hg), TV.le_refl _, TV.le_refl _, TV.le_refl _, nil_encs, trivial⟩
    · obtain ⟨ks, k1, k2, k3⟩ := rows_leF (es := es) (fun r hr' => fm_of n r (hr r hr'))
      exact ⟨.mk k m t ks, .mk (by rw [k3]; exact hl) (by rw [k3]; exact hby) k1, TV.le_refl _, TV.le_refl _, TV.le_refl _, TV.le_sl k2, trivial⟩
theorem form_of {n : Nat} {x : TV} (h : ArgTy tab n 24 x) : ∃ f : Fm, Fit f ∧ TV.le x f.enc := by
  obtain ⟨cs, rfl, h⟩ := (h : ∃ cs, x = .agg cs ∧ HasTy tab n 24 cs)
  obtain ⟨f, h1, h2⟩ := fm_of n cs h
  exact ⟨f, h1, TV.le_agg h2⟩
end Go.Proofs.YtnapockpjklanaaGreatDoor.Lit
end
