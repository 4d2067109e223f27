/- What yields a value is carried out so in memory: addresses, parts, numbers. -/
import Derived.Test.YtpakohboamfmjabPlYield
namespace Go.Proofs.Ytpakohboamfmjab.Pl
open Go.RowKit

theorem nth_get {α : Type} : ∀ {xs : List α} {n : Nat} {x : α}, nth xs n = some x → xs[n]? = some x
  | [], _, _, h => by simp [nth] at h
  | y :: _, 0, x, h => by simpa [nth] using h
  | _ :: r, n + 1, x, h => by simpa [nth] using nth_get (xs := r) h

section
variable {P : Program} {T : TyTab} {w : World} {F : Nat → Prop} {m : Nat → Value} {kk : Nat → Nat}

theorem field_at {fs : List (Nat × TypeId)} {d : TypeDesc} (h : (Ty.struct fs).fits d) {f : Nat} {off ft : Nat} (hf : nth fs f = some (off, ft)) :
    ∃ a fd, d = .struct a ∧ a[f]? = some fd ∧ fd.offset = off ∧ fd.type = ft := by
  obtain ⟨a, rfl, rfl⟩ := h
  have := nth_get hf
  simp at this
  obtain ⟨fd, h1, h2, h3⟩ := this
  exact ⟨a, fd, rfl, h1, h2, h3⟩

theorem fieldAddrK_sound (hT : TOK P T) {s : TypeId} {f : Nat} {K : AV → Prop} {p : AV} {u : Value} (h : fieldAddrK T s f K p) (hp : p.rel w F m kk u) :
    ∃ v y, K v ∧ v.rel w F m kk y ∧ (Instr.fieldAt s u f).run P w = .ok y w := by
  unfold fieldAddrK at h
  split at h
  · rename_i fs sz by' z q hs
    split at h
    · rename_i off ft hf
      split at h
      · rename_i fi hfi
        obtain ⟨d, hd, hu⟩ := hT.under (w := w) hs
        obtain ⟨a, fd, rfl, hfd, h1, h2⟩ := field_at hd hf
        cases hz : Nat.beq fi.size 0 with
        | true => simp [hz] at h
        | false =>
          have hz' : fi.size ≠ 0 := by intro e; rw [e] at hz; simp at hz
          have run : ∀ ad, (Instr.fieldAt s (.pointer (some ad)) f).run P w = .ok (.pointer (some (ad.add off))) w := by
            intro ad
            have := hT.size (w := w) hfi
            simp [Instr.fieldAt, hu, hfd, Instr.sureAddr, fieldPlace, h2, this, hz', h1]
          simp only [hz, cond_false] at h
          split at h
          · rename_i cs
            simp only [AV.rel, TV.rel] at hp
            obtain ⟨ad, us, rfl, hr, ho, hc⟩ := hp
            refine ⟨_, _, h, ?_, run ad⟩
            simp only [AV.rel, TV.rel]
            refine ⟨_, us.drop off, rfl, TV.relL_drop _ hr, fun u hu => ho u (List.mem_of_mem_drop hu), ?_⟩
            rcases hc with rfl | ⟨hF, hc⟩
            · exact .inl (by simp)
            · exact .inr ⟨by rw [add_block]; exact hF, hc.drop _⟩
          · simp only [AV.rel] at hp
            obtain ⟨g, hm, rfl⟩ := hp
            refine ⟨_, _, h, ?_, run _⟩
            simp only [AV.rel]
            exact ⟨g, hm, by rw [add_add]⟩
          · simp only [AV.rel] at hp
            obtain ⟨g, n, c, hm, rfl⟩ := hp
            refine ⟨_, _, h, ?_, run _⟩
            simp only [AV.rel]
            exact ⟨g, n, c, hm, by rw [add_add, Nat.add_assoc]⟩
          · exact h.elim
      · exact h.elim
    · exact h.elim
  · exact h.elim

theorem part_agg (hT : TOK P T) {t : TypeId} {ti : TI} (ht : T t = some ti) (ha : ti.d.agg = true) (us : List Value) (off : Nat) :
    (part t us.toArray off).run P w = .ok (.agg ((us.drop off).take ti.size).toArray) w := by
  simp [part, hT.agg ht, ha, hT.size ht, List.extract_eq_take_drop]
theorem part_one (hT : TOK P T) {t : TypeId} {ti : TI} (ht : T t = some ti) (ha : ti.d.agg = false) {us : List Value} {off : Nat} {y : Value} (hy : us[off]? = some y) :
    (part t us.toArray off).run P w = .ok y w := by
  simp [part, hT.agg ht, ha, hy]

theorem rel_aggCells {x : AV} {y : Value} {cs : List AV} (h : x.rel w F m kk y) (hx : aggCells x = some cs) : ∃ us, y = .agg us ∧ AV.relL w F m kk cs us.toList ∧ OneAll us.toList := by
  unfold aggCells at hx
  split at hx
  · injection hx with hx; subst hx
    simp only [AV.rel, TV.rel] at h
    obtain ⟨us, rfl, h1, h2⟩ := h
    exact ⟨_, rfl, by simpa using relL_map.1 h1, by simpa using h2⟩
  · injection hx with hx; subst hx
    simp only [AV.rel] at h
    obtain ⟨us, rfl, h1, h2⟩ := h
    exact ⟨_, rfl, by simpa using h1, by simpa using h2⟩
  · cases hx

theorem fieldK_sound (hT : TOK P T) {s : TypeId} {f : Nat} {K : AV → Prop} {x : AV} {u : Value} (h : fieldK T s f K x) (hp : x.rel w F m kk u) :
    ∃ v y, K v ∧ v.rel w F m kk y ∧ (Instr.field s u f).run P w = .ok y w := by
  unfold fieldK at h
  split at h
  · rename_i fs sz by' z q hs
    split at h
    · rename_i off ft hf
      split at h
      · rename_i fi hfi
        obtain ⟨d, hd, hun⟩ := hT.under (w := w) hs
        obtain ⟨a, fd, rfl, hfd, h1, h2⟩ := field_at hd hf
        split at h
        · rename_i cs hcs
          obtain ⟨us, rfl, hr, ho⟩ := rel_aggCells hp hcs
          have run : (Instr.field s (.agg us) f).run P w = (part ft us off).run P w := by
            simp [Instr.field, hun, hfd, asAgg, h1, h2]
          have hus : us = us.toList.toArray := by simp
          rw [run]
          generalize us.toList = ul at *
          subst hus
          cases ha : fi.d.agg with
          | true =>
            simp only [ha, cond_true] at h
            cases hb : Nat.ble (off + fi.size) cs.length with
            | false => simp [hb] at h
            | true =>
              simp only [hb, cond_true] at h
              exact ⟨_, _, h, rel_mkAgg (AV.relL_take _ (AV.relL_drop _ hr)) (fun u hu => ho u (List.mem_of_mem_drop (List.mem_of_mem_take hu))), part_agg hT hfi ha _ _⟩
          | false =>
            simp only [ha, cond_false] at h
            split at h
            · rename_i y hy
              obtain ⟨v, hv, hr'⟩ := AV.relL_nth hr hy
              exact ⟨_, _, h, hr', part_one hT hfi ha hv⟩
            · exact h.elim
        · exact h.elim
      · exact h.elim
    · exact h.elim
  · exact h.elim

variable {B0 : Nat → Prop} {F0 : Nat → Prop} {w0 : World} {σ : List (Nat × AO)}
theorem indexAddrK_sound (hT : TOK P T) (H : Heap B0 F0 w0 σ m kk w) {W : Prop → Prop} (hW : ∀ p, W p → p) {t : TypeId} {K : AV → Prop} {x j : AV} {u i : Value}
    (h : indexAddrK T σ W t K x j) (hp : x.rel w (Fc F0 B0 σ m) m kk u) (hj : j.rel w (Fc F0 B0 σ m) m kk i) :
    ∃ v y, K v ∧ v.rel w (Fc F0 B0 σ m) m kk y ∧ (Instr.indexAt t u i).run P w = .ok y w := by
  unfold indexAddrK at h
  split at h
  · rename_i ik n
    simp only [AV.rel, TV.rel] at hj
    obtain ⟨rfl, _⟩ := hj
    split at h
    · rename_i e sz by' z q k es ht
      split at h
      · rename_i ei hei
        obtain ⟨d, hd, hun⟩ := hT.under (w := w) ht
        simp only [Ty.fits] at hd; subst hd
        cases hb : Nat.beq ei.size k with
        | false => simp [hb] at h
        | true =>
          simp only [hb, cond_true] at h
          have hk := Nat.eq_of_beq_eq_true hb
          obtain ⟨c, hw, h⟩ := h
          obtain ⟨h0, hc⟩ := hW _ hw
          simp only [AV.rel, TV.rel] at hp
          obtain ⟨A, cap, us, rfl, hle, hml, hk0, hr, ho, hm⟩ := hp
          obtain ⟨hck, hrel⟩ := TV.relR_get hr hc
          have hlt : n.toNat < es.length := (List.getElem?_eq_some_iff.1 hc).1
          have hus : us ≠ [] := by
            have h1 := TV.relR_length hr
            have h2 : 0 < es.length * k := Nat.mul_pos (by omega) hk0
            intro e; rw [e, List.length_nil] at h1; omega
          obtain ⟨a, rfl, hF, hcell⟩ := hm.resolve_left hus
          have hlt' : n < (es.length : Int) := by omega
          refine ⟨_, .pointer (some (a.add (n.toNat * k))), h, ?_, ?_⟩
          · simp only [AV.rel, TV.rel]
            exact ⟨_, _, rfl, hrel, fun u hu => ho u (List.mem_of_mem_drop (List.mem_of_mem_take hu)), .inr ⟨by rw [add_block]; exact hF, (hcell.drop _).take _⟩⟩
          · simp [Instr.indexAt, asIntOf, hun, h0, hlt', hT.size hei, hk]
      · exact h.elim
    · rename_i e sz by' z q l ht
      split at h
      · rename_i e' k es ei hl hei
        obtain ⟨d, hd, hun⟩ := hT.under (w := w) ht
        simp only [Ty.fits] at hd; subst hd
        cases hb : Nat.beq ei.size k with
        | false => simp [hb] at h
        | true =>
          simp only [hb, cond_true] at h
          have hk := Nat.eq_of_beq_eq_true hb
          obtain ⟨hw, h⟩ := h
          obtain ⟨h0, hlt⟩ := hW _ hw
          simp only [AV.rel] at hp
          obtain ⟨rfl, _⟩ := hp
          obtain ⟨us, hown, hr, ho, hk0, hkk⟩ := H.ob l _ hl
          rcases hown.1.2 with ⟨hnil, hn0⟩ | ⟨g, cap, cur, hm, _⟩
          · omega
          · refine ⟨_, .pointer (some ((⟨g, 0, none⟩ : Addr).add (n.toNat * k))), h, ?_, ?_⟩
            · simp only [AV.rel]
              exact ⟨g, _, _, hm, by rw [hkk, Nat.add_zero]⟩
            · rw [hm]
              simp [Instr.indexAt, asIntOf, hun, h0, hlt, hT.size hei, hk]
      · exact h.elim
    · rename_i e sz by' z q l off cnt ht
      split at h
      · rename_i e' k es ei hl hei
        obtain ⟨d, hd, hun⟩ := hT.under (w := w) ht
        simp only [Ty.fits] at hd; subst hd
        cases hb : Nat.beq ei.size k with
        | false => simp [hb] at h
        | true =>
          simp only [hb, cond_true] at h
          have hk := Nat.eq_of_beq_eq_true hb
          obtain ⟨hw, h⟩ := h
          obtain ⟨h0, hlt⟩ := hW _ hw
          obtain ⟨us, hown, hr, ho, hk0, hkk⟩ := H.ob l _ hl
          simp only [AV.rel] at hp
          rcases hp with ⟨g, N, c, A, hm, rfl, _, hA, _, hle⟩ | ⟨_, _, _, rfl⟩
          · have hAe := hA (by omega)
            subst hAe
            refine ⟨_, .pointer (some (((⟨g, 0, none⟩ : Addr).add (off * kk l)).add (n.toNat * k))), h, ?_, ?_⟩
            · simp only [AV.rel]
              exact ⟨g, _, _, hm, by rw [add_add, hkk, Nat.add_zero, Nat.add_mul]⟩
            · simp [Instr.indexAt, asIntOf, hun, h0, hlt, hT.size hei, hk]
          · omega
      · exact h.elim
    · rename_i nn e sz by' z q l off ht
      split at h
      · rename_i ei hei
        obtain ⟨d, hd, hun⟩ := hT.under (w := w) ht
        simp only [Ty.fits] at hd; subst hd
        cases hb : Nat.ble 2 nn with
        | false => simp [hb] at h
        | true =>
          simp only [hb, cond_true] at h
          obtain ⟨hw, h⟩ := h
          obtain ⟨h0, hlt⟩ := hW _ hw
          simp only [AV.rel] at hp
          obtain ⟨g, hm, rfl⟩ := hp
          refine ⟨_, .pointer (some (((⟨g, 0, none⟩ : Addr).add off).add (n.toNat * ei.size))), h, ?_, ?_⟩
          · simp only [AV.rel]
            exact ⟨g, hm, by rw [add_add]⟩
          · simp [Instr.indexAt, asIntOf, hun, h0, hlt, hT.size hei, Instr.sureAddr]
      · exact h.elim
    · rename_i nn e sz by' z q cs ht
      split at h
      · rename_i ei hei
        obtain ⟨d, hd, hun⟩ := hT.under (w := w) ht
        simp only [Ty.fits] at hd; subst hd
        cases hb : Nat.ble 2 nn with
        | false => simp [hb] at h
        | true =>
          simp only [hb, cond_true] at h
          obtain ⟨hw, h⟩ := h
          obtain ⟨h0, hlt⟩ := hW _ hw
          simp only [AV.rel, TV.rel] at hp
          obtain ⟨ad, us, rfl, hr, ho, hc⟩ := hp
          refine ⟨_, .pointer (some (ad.add (n.toNat * ei.size))), h, ?_, ?_⟩
          rotate_left
          · simp [Instr.indexAt, asIntOf, hun, h0, hlt, hT.size hei, Instr.sureAddr]
          · simp only [AV.rel, TV.rel]
            refine ⟨_, us.drop (n.toNat * ei.size), rfl, TV.relL_drop _ hr, fun u hu => ho u (List.mem_of_mem_drop hu), ?_⟩
            rcases hc with rfl | ⟨hF, hc⟩
            · exact .inl (by simp)
            · exact .inr ⟨by rw [add_block]; exact hF, hc.drop _⟩
      · exact h.elim
    · exact h.elim
  · exact h.elim

theorem indexK_sound (hT : TOK P T) {W : Prop → Prop} (hW : ∀ p, W p → p) {t : TypeId} {K : AV → Prop} {x j : AV} {u i : Value}
    (h : indexK T W t K x j) (hp : x.rel w F m kk u) (hj : j.rel w F m kk i) :
    ∃ v y, K v ∧ v.rel w F m kk y ∧ (Instr.index t u i).run P w = .ok y w := by
  unfold indexK at h
  split at h
  · rename_i ik n
    simp only [AV.rel, TV.rel] at hj
    obtain ⟨rfl, _⟩ := hj
    split at h
    · rename_i sz by' z q s ht
      obtain ⟨d, hd, hun⟩ := hT.under (w := w) ht
      simp only [Ty.fits] at hd; subst hd
      obtain ⟨hw, h⟩ := h
      obtain ⟨h0, hlt⟩ := hW _ hw
      simp only [AV.rel, TV.rel] at hp
      obtain ⟨rfl, _⟩ := hp
      refine ⟨_, .int .u8 (byteAt s n), h, by simp [AV.rel, TV.rel, scal], ?_⟩
      have hs : n.toNat < s.size := by omega
      have hs' : n.toNat < s.data.toList.length := by simpa using hs
      have : s[n.toNat]? = some (s.data.toList.getD n.toNat 0) := by
        rw [getElem?_pos s n.toNat hs]
        simp only [List.getD_eq_getElem?_getD, List.getElem?_eq_getElem hs', Option.getD_some]
        rfl
      simp [Instr.index, asIntOf, hun, h0, this, byteAt]
    · exact h.elim
  · exact h.elim
end
end Go.Proofs.Ytpakohboamfmjab.Pl
