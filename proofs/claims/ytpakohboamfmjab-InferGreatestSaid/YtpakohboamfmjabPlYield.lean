/- What yields a value is carried out so in memory. -/
import Derived.Test.YtpakohboamfmjabPlRel
namespace Go.Proofs.Ytpakohboamfmjab.Pl
open Go.RowKit

theorem add_add (a : Addr) (i j : Nat) : (a.add i).add j = a.add (i + j) := by
  unfold Addr.add
  by_cases hi : i = 0
  · subst hi; simp
  · by_cases hj : j = 0
    · subst hj; simp [hi]
    · simp [hi, hj, Nat.add_assoc]

theorem CellsAt.drop {w : World} {a : Addr} {us : List Value} (h : CellsAt w a us) (n : Nat) : CellsAt w (a.add n) (us.drop n) := by
  intro j u hj
  rw [add_add]
  exact h _ _ (by simpa using hj)
theorem CellsAt.take {w : World} {a : Addr} {us : List Value} (h : CellsAt w a us) (n : Nat) : CellsAt w a (us.take n) := by
  intro j u hj
  rw [List.getElem?_take] at hj
  split at hj
  · exact h _ _ hj
  · cases hj
theorem cellsAt_block {w : World} {g : Nat} {us : List Value} {t : TypeId} {fz : Nat × Nat} (h : w.heap[g]? = some (.cells us.toArray t fz)) : CellsAt w ⟨g, 0, none⟩ us := by
  intro j u hj
  have hadd : (⟨g, 0, none⟩ : Addr).add j = ⟨g, j, none⟩ := by unfold Addr.add; split <;> simp_all
  rw [hadd, cell_of_row w g j _ t fz h]
  simpa using hj

section
variable {P : Program} {T : TyTab} {w : World}
theorem load_agg (hT : TOK P T) {t : TypeId} {ti : TI} (ht : T t = some ti) (ha : ti.d.agg = true) {a : Addr} {us : List Value} (h : CellsAt w a us) (hl : ti.size ≤ us.length) :
    (Instr.loadAt t (.pointer (some a))).run P w = .ok (.agg (us.take ti.size).toArray) w := by
  have hc : (loadCells a ti.size).run P w = .ok (us.take ti.size).toArray w := by
    have := run_loadCells_list (P := P) (w := w) a (us.take ti.size) (h.take _)
    simpa [Nat.min_eq_left hl] using this
  simp [Instr.loadAt, Instr.sureAddr, loadVar, hT.agg ht, ha, hT.size ht, hc]
theorem load_one (hT : TOK P T) {t : TypeId} {ti : TI} (ht : T t = some ti) (ha : ti.d.agg = false) {a : Addr} {us : List Value} (h : CellsAt w a us) {y : Value} (hy : us[0]? = some y) :
    (Instr.loadAt t (.pointer (some a))).run P w = .ok y w := by
  have hc : w.cell? a = some y := by have := h 0 y hy; simpa [Addr.add] using this
  simp [Instr.loadAt, Instr.sureAddr, loadVar, hT.agg ht, ha, hc]

variable {B0 : Nat → Prop} {F0 : Nat → Prop} {w0 : World} {σ : List (Nat × AO)} {m : Nat → Value} {kk : Nat → Nat}
theorem loadK_sound (hT : TOK P T) (H : Heap B0 F0 w0 σ m kk w) {t : TypeId} {ti : TI} (ht : T t = some ti) {K : AV → Prop} {p : AV} {u : Value}
    (h : loadK ti σ K p) (hp : p.rel w (Fc F0 B0 σ m) m kk u) : ∃ v y, K v ∧ v.rel w (Fc F0 B0 σ m) m kk y ∧ (Instr.loadAt t u).run P w = .ok y w := by
  unfold loadK at h
  split at h
  · rename_i cs
    simp only [AV.rel, TV.rel] at hp
    obtain ⟨a, us, rfl, hr, h1, hc⟩ := hp
    have hc' : CellsAt w a us := by rcases hc with rfl | hc; (· intro j u hj; simp at hj); exact hc.2
    cases ha : ti.d.agg with
    | true =>
      simp only [ha, cond_true] at h
      cases hb : Nat.ble ti.size cs.length with
      | false => simp [hb] at h
      | true =>
        simp only [hb, cond_true] at h
        have hl : ti.size ≤ us.length := by rw [TV.relL_length hr]; exact Nat.le_of_ble_eq_true hb
        refine ⟨_, _, h, ?_, load_agg hT ht ha hc' hl⟩
        simp only [AV.rel, TV.rel]
        exact ⟨_, rfl, TV.relL_take _ hr, fun u hu => h1 u (List.mem_of_mem_take hu)⟩
    | false =>
      simp only [ha, cond_false] at h
      cases cs with
      | nil => simp [headT] at h
      | cons x cs =>
        simp only [headT] at h
        simp only [TV.relL] at hr
        obtain ⟨u, us', rfl, h0, _⟩ := hr
        exact ⟨_, u, h, h0, load_one hT ht ha hc' rfl⟩
  · rename_i l off
    simp only [AV.rel] at hp
    obtain ⟨g, hm, rfl⟩ := hp
    split at h
    · rename_i cs hl
      obtain ⟨g', us, t', hm', hB, hg, hr, h1⟩ := H.ob l _ hl
      rw [hm] at hm'; simp at hm'; subst hm'
      have hc' := (cellsAt_block hg).drop off
      cases ha : ti.d.agg with
      | true =>
        simp only [ha, cond_true] at h
        cases hb : Nat.ble (off + ti.size) cs.length with
        | false => simp [hb] at h
        | true =>
          simp only [hb, cond_true] at h
          have hl : ti.size ≤ (us.drop off).length := by
            have := Nat.le_of_ble_eq_true hb
            rw [List.length_drop, AV.relL_length hr]; omega
          exact ⟨_, _, h, rel_mkAgg (AV.relL_take _ (AV.relL_drop _ hr)) (fun u hu => h1 u (List.mem_of_mem_drop (List.mem_of_mem_take hu))), load_agg hT ht ha hc' hl⟩
      | false =>
        simp only [ha, cond_false] at h
        split at h
        · rename_i x hx
          obtain ⟨y, hy, hxy⟩ := AV.relL_nth hr hx
          exact ⟨_, y, h, hxy, load_one hT ht ha hc' (by simpa using hy)⟩
        · exact h.elim
    · exact h.elim
  · rename_i l i j
    simp only [AV.rel] at hp
    obtain ⟨g, n, c, hm, rfl⟩ := hp
    split at h
    · rename_i e k es hl
      obtain ⟨c', hc', h⟩ := h
      obtain ⟨us, ho, hr, h1, hk, hkk⟩ := H.ob l _ hl
      obtain ⟨hck, hrel⟩ := TV.relR_get hr hc'
      have hcell : CellsAt w ⟨g, 0, none⟩ us := ho.1.cells (g := g) (by rw [hm]; rfl)
      have hat : CellsAt w ((⟨g, 0, none⟩ : Addr).add (i * kk l + j)) (((us.drop (i * k)).take k).drop j) := by
        rw [hkk, ← add_add]
        exact ((hcell.drop _).take _).drop _
      have h1' : OneAll (((us.drop (i * k)).take k).drop j) := fun u hu => h1 u (List.mem_of_mem_drop (List.mem_of_mem_take (List.mem_of_mem_drop hu)))
      cases ha : ti.d.agg with
      | true =>
        simp only [ha, cond_true] at h
        cases hb : Nat.ble (j + ti.size) k with
        | false => simp [hb] at h
        | true =>
          simp only [hb, cond_true] at h
          have hlen := TV.relL_length (TV.relL_drop j hrel)
          have hl : ti.size ≤ (((us.drop (i * k)).take k).drop j).length := by
            have := Nat.le_of_ble_eq_true hb
            rw [hlen, List.length_drop, hck]; omega
          refine ⟨_, _, h, ?_, load_agg hT ht ha hat hl⟩
          simp only [AV.rel, TV.rel]
          exact ⟨_, rfl, TV.relL_take _ (TV.relL_drop _ hrel), fun u hu => h1' u (List.mem_of_mem_take hu)⟩
      | false =>
        simp only [ha, cond_false] at h
        split at h
        · rename_i x hx
          obtain ⟨y, hy, hxy⟩ := TV.relL_nth hrel hx
          exact ⟨_, y, h, hxy, load_one hT ht ha hat (by simpa using hy)⟩
        · exact h.elim
    · exact h.elim
  · exact h.elim
end
end Go.Proofs.Ytpakohboamfmjab.Pl
