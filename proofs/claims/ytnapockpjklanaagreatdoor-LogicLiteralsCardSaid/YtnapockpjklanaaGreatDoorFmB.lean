/- Quantified. -/
import Derived.Test.YtnapockpjklanaaGreatDoorFmA
noncomputable section
set_option linter.all false
namespace Go.Proofs.YtnapockpjklanaaGreatDoor.Lit
open Go Go.RowKit Go.Proofs.YtnapockpjklanaaGreatDoor.Pl
set_option linter.unusedSectionVars false
variable [Gm]
set_option maxRecDepth 10000

def f0 : Fm := .mk 0 0 ⟨#[]⟩ []
def goodVar (g : Fm) : Bool := !((g.kind != 3) || ((rows g.kids).length : Int) != 2 || !(match g.kids with | x :: _ => x.kind == 1 | [] => false))
def trigS : ByteArray := ⟨#[116, 114, 105, 103, 103, 101, 114]⟩
def goodTrig (g : Fm) : Bool := !(((headOf g).toList != trigS.toList) || decide (((rows g.kids).length : Int) < 2))
def isQ (f : Fm) : Bool := !(((headOf f).toList != (ByteArray.mk #[102, 111, 114, 97, 108, 108]).toList && (headOf f).toList != (ByteArray.mk #[101, 120, 105, 115, 116, 115]).toList) || decide (((rows f.kids).length : Int) < 3) || (match f.kids with | _ :: v :: _ => v.kind != 3 | _ => true))
def varsOf (f : Fm) : List Fm := match f.kids with | _ :: v :: _ => v.kids | _ => []
def trigsOf (f : Fm) : List Fm := (f.kids.take (f.kids.length - 1)).drop 2
def bodyOf (f : Fm) : Fm := f.kids.getLastD f0
def okQ (f : Fm) : Bool := isQ f && (decide (1 ≤ (varsOf f).length) && decide ((varsOf f).length ≤ 4)) && (varsOf f).all goodVar && (trigsOf f).all goodTrig
def quant (f : Fm) : TV := if okQ f then .tup [encs (varsOf f), encs (trigsOf f), (bodyOf f).enc, tB true] else .tup [encs [], encs [], f0.enc, tB false]

theorem bad_le : TV.le (.tup [.v (.slice none 0 0), .v (.slice none 0 0), .agg [tI 0, tI 0, tS ⟨#[]⟩, .v (.slice none 0 0)], tB false]) (.tup [encs [], encs [], f0.enc, tB false]) :=
  TV.le_tup ⟨nil_encs, nil_encs, TV.le_agg ⟨TV.le_refl _, TV.le_refl _, TV.le_refl _, nil_encs, trivial⟩, TV.le_refl _, trivial⟩

theorem quant_ent : Ent Tryz.prog 15 := fun a w => Tryz.call15 a w
theorem quant_spec (f : Fm) (hf : Fit f) : PC Tryz.prog 15 [f.enc] (quant f) := by
  have hh := rhead_spec f
  have hq : isQ f = !(((headOf f).toList != (ByteArray.mk #[102, 111, 114, 97, 108, 108]).toList && (headOf f).toList != (ByteArray.mk #[101, 120, 105, 115, 116, 115]).toList) || decide (((rows f.kids).length : Int) < 3) || (match f.kids with | _ :: v :: _ => v.kind != 3 | _ => true)) := rfl
  have hqu : quant f = if okQ f then .tup [encs (varsOf f), encs (trigsOf f), (bodyOf f).enc, tB true] else .tup [encs [], encs [], f0.enc, tB false] := rfl
  generalize headOf f = hd at hh hq
  obtain ⟨k, n, t, ks⟩ := f
  refine PC.of_okL tok Tryz.func15 rfl (Nat.le_of_ble_eq_true rfl) (ev_sound ctx (own := []) _ _ _ ?_)
  refine ⟨rhead_ent, .inl ⟨_, hh, ?_⟩⟩
  have hbad : okQ (.mk k n t ks) = false → TV.le (.tup [.v (.slice none 0 0), .v (.slice none 0 0), .agg [tI 0, tI 0, tS ⟨#[]⟩, .v (.slice none 0 0)], tB false]) (quant (.mk k n t ks)) := by
    intro h; rw [hqu, h]; exact bad_le
  have short : ∀ ks : List Fm, ks.length < 2 → decide (((rows ks).length : Int) < 3) = true := fun ks h => by rw [rows_len]; simp; omega
  match ks, hf with
  | [], hf => 
    refine ⟨f0.cells, fun h => absurd h (by simp [rows]), fun h => ?_, fun h => absurd h (by simp [rows])⟩
    exact hbad (by simp [okQ, hq, Fm.kids, rows])
  | [x], hf =>
    refine ⟨f0.cells, fun h => absurd h (by simp [rows]), fun h => ?_, fun h => absurd h (by simp [rows])⟩
    exact hbad (by simp [okQ, hq, Fm.kids, rows])
  | x :: v :: r, hf =>
    obtain ⟨vk, vn, vt, vs⟩ := v
    refine ⟨(Fm.mk vk vn vt vs).cells, fun _ => ⟨by decide, rfl⟩, fun h => ?_, fun h => ?_⟩
    · have : isQ (.mk k n t (x :: .mk vk vn vt vs :: r)) = false := hq.trans (congrArg Bool.not h)
      exact hbad (by simp [okQ, this])
    · have hQ : isQ (.mk k n t (x :: .mk vk vn vt vs :: r)) = true := hq.trans (congrArg Bool.not h)
      have h3 : 3 ≤ (x :: Fm.mk vk vn vt vs :: r).length := by
        have h2 : decide (((rows (x :: Fm.mk vk vn vt vs :: r)).length : Int) < 3) = false := by
          have h' := h
          rw [Bool.or_eq_false_iff, Bool.or_eq_false_iff] at h'
          exact h'.1.2
        rw [rows_len] at h2
        have := of_decide_eq_false h2
        omega
      refine ⟨_, ⟨by decide, rfl⟩, ?_⟩
      refine ⟨fun hv => ?_, fun hv => ?_⟩
      · have hv : (decide (((rows vs).length : Int) < 1) || decide (((rows vs).length : Int) > 4)) = true := hv
        refine hbad ?_
        rw [rows_len] at hv
        have hn : (decide (1 ≤ vs.length) && decide (vs.length ≤ 4)) = false := by
          rw [Bool.or_eq_true] at hv
          rw [Bool.and_eq_false_iff]
          rcases hv with hv | hv
          · have := of_decide_eq_true hv; exact .inl (decide_eq_false (by omega))
          · have := of_decide_eq_true hv; exact .inr (decide_eq_false (by omega))
        show (isQ _ && (decide (1 ≤ vs.length) && decide (vs.length ≤ 4)) && _ && _) = false
        rw [hn, hQ]; rfl
      · have hv : (decide (((rows vs).length : Int) < 1) || decide (((rows vs).length : Int) > 4)) = false := hv
        rw [rows_len, Bool.or_eq_false_iff] at hv
        have hv1 := of_decide_eq_false hv.1
        have hv2 := of_decide_eq_false hv.2
        have hvl : vs.length ≤ maxLen := by simp only [maxLen]; omega
        refine Ok.loop (st := fun i : Nat => ⟨[(8, vi i), (7, vi (x :: Fm.mk vk vn vt vs :: r).length), (4, .ptr 4 0), (2, .t (encs vs)), (1, .ptr 1 0)],
            [(4, .var (zf.map .t)), (1, .var [.t (tI k), .t (tI n), .t (tS t), .t (encs (x :: Fm.mk vk vn vt vs :: r))])]⟩)
          (R := fun i => i ≤ vs.length ∧ ∀ j (hj : j < vs.length), j < i → goodVar vs[j] = true) (μ := fun i => vs.length - i) 0 (Wk.sub ⟨rfl, slotI (by simp [rows_len]), rfl, rfl, rfl, trivial⟩ ⟨rfl, rfl, trivial⟩) ⟨Nat.zero_le _, fun j _ h => absurd h (Nat.not_lt_zero j)⟩ ?_
        have hbadV : ∀ (j : Nat) (hj : j < vs.length), goodVar vs[j] = false → okQ (.mk k n t (x :: .mk vk vn vt vs :: r)) = false := by
          intro j hj hb
          have : vs.all goodVar = false := by
            rw [List.all_eq_false]
            exact ⟨vs[j], List.getElem_mem hj, by rw [hb]; simp⟩
          show (_ && vs.all goodVar && _) = false
          rw [this]; simp
        rintro i ⟨hi, hno⟩
        refine ev_sound ctx (own := []) _ _ _ ?_
        refine ⟨fun h => ?_, fun h => ?_⟩
        · have h : decide ((i : Int) < ((rows vs).length : Int)) = true := h
          rw [rows_len] at h
          have hlt := ltOf h
          have hget := rows_get hlt
          have hgd := hbadV i hlt
          have hgo : goodVar vs[i] = true → ∀ j (hj : j < vs.length), j < i + 1 → goodVar vs[j] = true := fun hg j hj hji => by
            rcases Nat.lt_or_ge j i with h1 | h1
            · exact hno j hj h1
            · have : j = i := by omega
              subst this; exact hg
          generalize hg : vs[i] = g at hget hgd hgo
          obtain ⟨gk, gn, gt, gs⟩ := g
          refine ⟨_, hget, _, fun _ => hget, _, fun _ => hget, ?_⟩
          match gs, hgd, hgo with
          | [], hgd, hgo =>
            refine ⟨f0.cells, fun h => absurd h (by simp [rows]), ?_⟩
            refine ⟨isWord_ent, _, fun _ => isWord_spec f0, ?_⟩
            refine ⟨fun h => ?_, fun h => absurd h (by simp [rows])⟩
            exact hbad (hgd (by simp [goodVar, Fm.kids, rows]))
          | y :: gs', hgd, hgo =>
            obtain ⟨yk, yn, yt, ys⟩ := y
            refine ⟨(Fm.mk yk yn yt ys).cells, fun _ => ⟨Int.le_refl _, rfl⟩, ?_⟩
            refine ⟨isWord_ent, _, fun _ => isWord_spec (Fm.mk yk yn yt ys), ?_⟩
            refine ⟨fun h => ?_, fun h => ?_⟩
            · exact hbad (hgd (congrArg Bool.not h))
            · exact ⟨trivial, i + 1, Wk.sub ⟨slotI (wr1 hlt hvl), rfl, rfl, rfl, rfl, trivial⟩ ⟨rfl, rfl, trivial⟩, ⟨hlt, hgo (congrArg Bool.not h)⟩, dec hlt⟩
        · have hge : vs.length ≤ i := by
            have h : decide ((i : Int) < ((rows vs).length : Int)) = false := h
            rw [rows_len] at h
            exact geOf h
          have hall : vs.all goodVar = true := by
            rw [List.all_eq_true]
            intro g hg
            obtain ⟨j, hj, rfl⟩ := List.getElem_of_mem hg
            exact hno j hj (by omega)
          have hL : Fm.kids (.mk k n t (x :: .mk vk vn vt vs :: r)) = x :: .mk vk vn vt vs :: r := rfl
          have hkl : (x :: Fm.mk vk vn vt vs :: r).length ≤ maxLen := by cases hf with | mk h _ _ => exact h
          have hqz : okQ (.mk k n t (x :: .mk vk vn vt vs :: r)) = (trigsOf (.mk k n t (x :: .mk vk vn vt vs :: r))).all goodTrig := by
            show (isQ _ && (decide (1 ≤ vs.length) && decide (vs.length ≤ 4)) && vs.all goodVar && _) = _
            have e1 : decide (1 ≤ vs.length) = true := decide_eq_true (by omega)
            have e2 : decide (vs.length ≤ 4) = true := decide_eq_true (by omega)
            rw [hQ, e1, e2, hall]; rfl
          have hqt : trigsOf (.mk k n t (x :: .mk vk vn vt vs :: r)) = ((x :: .mk vk vn vt vs :: r : List Fm).take ((x :: .mk vk vn vt vs :: r : List Fm).length - 1)).drop 2 := rfl
          have hbo : bodyOf (.mk k n t (x :: .mk vk vn vt vs :: r)) = (x :: .mk vk vn vt vs :: r : List Fm).getLastD f0 := rfl
          have hva : varsOf (.mk k n t (x :: .mk vk vn vt vs :: r)) = vs := rfl
          clear hno hbadV hQ
          generalize hLL : (x :: Fm.mk vk vn vt vs :: r : List Fm) = L at *
          obtain ⟨m, hm⟩ : ∃ m, L.length = m + 1 := ⟨L.length - 1, by omega⟩
          have hw : IntKind.i64.wrap ((L.length : Int) - 1) = (m : Int) := by
            rw [hm]; simp only [maxLen] at hkl; rw [wr (by omega) (by omega)]; omega
          refine Ok.loop (st := fun j : Nat => ⟨[(9, vi j), (7, vi L.length), (4, .ptr 4 0), (2, .t (encs vs)), (1, .ptr 1 0)],
              [(4, .var (zf.map .t)), (1, .var [.t (tI k), .t (tI n), .t (tS t), .t (encs L)])]⟩)
            (R := fun j => 2 ≤ j ∧ j ≤ m ∧ ∀ p (hp : p < L.length), 2 ≤ p → p < j → goodTrig L[p] = true) (μ := fun j => m - j) 2 (Wk.sub ⟨rfl, rfl, rfl, rfl, rfl, trivial⟩ ⟨rfl, rfl, trivial⟩) ⟨Nat.le_refl _, by omega, fun p _ h2 h => by omega⟩ ?_
          rintro j ⟨hj2, hjm, hjo⟩
          refine ev_sound ctx (own := []) _ _ _ ?_
          refine ⟨trivial, fun h => ?_, fun h => ?_⟩
          · have h : decide ((j : Int) < IntKind.i64.wrap ((L.length : Int) - 1)) = true := h
            rw [hw] at h
            have hlt := ltOf h
            have hjl : j < L.length := by omega
            have hget := rows_get hjl
            have hgd : goodTrig L[j] = false → okQ (.mk k n t L) = false := by
              intro hb
              rw [hqz, List.all_eq_false]
              refine ⟨L[j], ?_, by rw [hb]; simp⟩
              rw [hqt, hm, Nat.add_sub_cancel, List.mem_iff_getElem]
              refine ⟨j - 2, by simp; omega, ?_⟩
              simp only [List.getElem_drop, List.getElem_take]
              congr 1; omega
            have hgo : goodTrig L[j] = true → ∀ p (hp : p < L.length), 2 ≤ p → p < j + 1 → goodTrig L[p] = true := fun hg p hp h2 hpi => by
              rcases Nat.lt_or_ge p j with h1 | h1
              · exact hjo p hp h2 h1
              · have : p = j := by omega
                subst this; exact hg
            have hh := rhead_spec L[j]
            generalize hg : L[j] = g at hget hgd hgo hh
            have hgt : goodTrig g = !(((headOf g).toList != trigS.toList) || decide (((rows g.kids).length : Int) < 2)) := rfl
            generalize headOf g = gh at hh hgt
            obtain ⟨gk, gn, gt, gs⟩ := g
            refine ⟨_, hget, ?_⟩
            refine ⟨rhead_ent, .inl ⟨_, hh, ?_⟩⟩
            refine ⟨_, fun _ => hget, ?_⟩
            refine ⟨fun h => ?_, fun h => ?_⟩
            · exact hbad (hgd (hgt.trans (congrArg Bool.not h)))
            · exact ⟨trivial, j + 1, Wk.sub ⟨slotI (wr1 hlt (by omega)), rfl, rfl, rfl, rfl, trivial⟩ ⟨rfl, rfl, trivial⟩, ⟨by omega, hlt, hgo (hgt.trans (congrArg Bool.not h))⟩, dec hlt⟩
          · have h : decide ((j : Int) < IntKind.i64.wrap ((L.length : Int) - 1)) = false := h
            rw [hw] at h
            have hge := geOf h
            have : j = m := Nat.le_antisymm hjm hge
            subst this
            have hml : j < L.length := by omega
            have hok : okQ (.mk k n t L) = true := by
              rw [hqz, List.all_eq_true]
              intro g hg
              rw [hqt, hm, Nat.add_sub_cancel] at hg
              obtain ⟨p, hp, rfl⟩ := List.getElem_of_mem hg
              simp only [List.getElem_drop, List.getElem_take]
              simp at hp
              exact hjo _ (by omega) (by omega) (by omega)
            have hget := rows_get hml
            have hlast : L.getLastD f0 = L[j] := by
              rw [List.getLastD_eq_getLast?, List.getLast?_eq_getElem?, hm, Nat.add_sub_cancel, List.getElem?_eq_getElem hml]; rfl
            have hres : quant (.mk k n t L) = .tup [encs vs, .sl 4 (((rows L).take j).drop 2), (L[j]).enc, tB true] := by
              rw [hqu, hok, if_pos rfl, hva, hqt, hbo, hlast, hm, Nat.add_sub_cancel]
              simp only [encs, rows_map, List.map_drop, List.map_take]
            rw [hres]
            generalize L[j] = g at hget
            obtain ⟨gk, gn, gt, gs⟩ := g
            refine ⟨fun _ => trivial, fun _ => ⟨by decide, ?_, ?_⟩, fun _ => trivial, (Fm.mk gk gn gt gs).cells, fun _ => ?_, ?_⟩
            · rw [hw]; omega
            · rw [hw, rows_len]; omega
            · rw [hw]; exact hget
            · show TV.le (.tup [encs vs, .sl 4 (((rows L).take (IntKind.i64.wrap ((L.length : Int) - 1)).toNat).drop (2 : Int).toNat), .agg (Fm.mk gk gn gt gs).cells, tB true]) _
              rw [hw]
              exact TV.le_refl _
end Go.Proofs.YtnapockpjklanaaGreatDoor.Lit
end
