/- Regions that draw their order: the rule. -/
import Derived.Test.YtpakohboamfmjabPlDraw5
namespace Go.Proofs.Ytpakohboamfmjab.Pl
open Go.RowKit

section
variable {P : Program} {T : TyTab} {N : Nat} {B0 : Nat → Prop} {F0 : Nat → Prop} {w0 : World}
variable {ops : Array Oper} {s : St} {recs : List DR} {Q : Exit → Act → World → Prop}

theorem getD_tf {listed : Array Bool} {i : Nat} (h : i < listed.size) : listed.getD i true = listed.getD i false := by simp [h]

theorem hasEdge_spec {j : Nat} {o : Oper} (h : hasEdge j o = true) : ∃ e ∈ o.after, e.on = j ∧ Region.binds .any e = true := by
  unfold hasEdge at h
  rw [List.any_eq_true] at h
  obtain ⟨e, h1, h2⟩ := h
  simp only [Bool.and_eq_true] at h2
  exact ⟨e, Array.mem_toList_iff.1 h1, Nat.eq_of_beq_eq_true h2.1, h2.2⟩

def Closed (ops : Array Oper) (L : Nat → Bool) : Prop := ∀ (i : Nat) (o : Oper), ops[i]? = some o → L i = true → ∀ e ∈ o.after, Region.binds .any e = true → L e.on = true
theorem coverB_spec {j : Nat} {L : Nat → Bool} (hc : Closed ops L) : ∀ {f : Nat} {o : Oper}, coverB ops j f o = true → (∀ e ∈ o.after, Region.binds .any e = true → L e.on = true) → L j = true
  | 0, o, h, ho => by
    obtain ⟨e, h1, h2, h3⟩ := hasEdge_spec h
    rw [← h2]; exact ho e h1 h3
  | f + 1, o, h, ho => by
    simp only [coverB, Bool.or_eq_true, List.any_eq_true, Bool.and_eq_true] at h
    rcases h with h | ⟨e, h1, h2, h3⟩
    · obtain ⟨e, h1, h2, h3⟩ := hasEdge_spec h
      rw [← h2]; exact ho e h1 h3
    · split at h3
      · rename_i o' ho'
        exact coverB_spec hc h3 (hc e.on o' ho' (ho e (Array.mem_toList_iff.1 h1) h2))
      · cases h3

structure DrawOK (ops : Array Oper) (n : Nat) : Prop where
  back : ∀ (i : Nat) (o : Oper), ops[i]? = some o → ∀ e ∈ o.after, Region.binds .any e = true → e.on < i
  pre : ∀ (i : Nat) (o : Oper), ops[i]? = some o → i < n → ∀ (j : Nat) (oj : Oper) (t : Tmp), j < n → ops[j]? = some oj → oj.dst = some t → t ∈ o.looksAt ops → ∃ e ∈ o.after, e.on = j ∧ Region.binds .any e = true
  post : ∀ (i : Nat) (o : Oper), ops[i]? = some o → n < i → ∃ e ∈ o.after, e.on = i - 1 ∧ Region.binds .any e = true
  turn : ∀ (o : Oper), ops[n]? = some o → ∀ j, j < n → ∀ L, Closed ops L → (∀ e ∈ o.after, Region.binds .any e = true → L e.on = true) → L j = true

theorem drawOK_spec {n : Nat} (h : drawOK ops n = true) : DrawOK ops n := by
  unfold drawOK at h
  simp only [List.all_eq_true] at h
  have key : ∀ (i : Nat) (o : Oper), ops[i]? = some o → (∀ e ∈ o.after, Region.binds .any e = true → e.on < i) ∧ (if i < n then ∀ j, j < n → (o.looksAt ops).any (fun t => dstIs ops j t) = true → hasEdge j o = true else if i = n then ∀ j, j < n → coverB ops j 8 o = true else hasEdge (i - 1) o = true) := by
    intro i o ho
    have hi : i < ops.size := (Array.getElem?_eq_some_iff.1 ho).1
    have h1 := h i (List.mem_range.2 hi)
    simp only [ho, Bool.and_eq_true, List.all_eq_true, Bool.or_eq_true, Bool.not_eq_true'] at h1
    refine ⟨fun e he hb => ?_, ?_⟩
    · rcases h1.1 e (Array.mem_toList_iff.2 he) with h2 | h2
      · rw [hb] at h2; cases h2
      · exact Nat.le_of_ble_eq_true h2
    · have h2 := h1.2
      by_cases hn : i < n
      · rw [if_pos hn]
        have hb : Nat.blt i n = true := Nat.ble_eq_true_of_le hn
        rw [hb, cond_true] at h2
        simp only [List.all_eq_true, Bool.or_eq_true, Bool.not_eq_true'] at h2
        intro j hj hany
        rcases h2 j (List.mem_range.2 hj) with h3 | h3
        · rw [hany] at h3; cases h3
        · exact h3
      · rw [if_neg hn]
        have hb : Nat.blt i n = false := by
          cases hq : Nat.blt i n with
          | true => exact absurd (Nat.le_of_ble_eq_true hq) hn
          | false => rfl
        rw [hb, cond_false] at h2
        by_cases he : i = n
        · rw [if_pos he]
          have hb : Nat.beq i n = true := by rw [he]; exact Nat.beq_refl n
          rw [hb, cond_true] at h2
          simp only [List.all_eq_true] at h2
          intro j hj
          exact h2 j (List.mem_range.2 hj)
        · rw [if_neg he]
          have hb : Nat.beq i n = false := by
            cases hq : Nat.beq i n with
            | true => exact absurd (Nat.eq_of_beq_eq_true hq) he
            | false => rfl
          rw [hb, cond_false] at h2
          exact h2
  refine ⟨fun i o ho => (key i o ho).1, ?_, ?_, ?_⟩
  · intro i o ho hi j oj t hj hoj hd ht
    have := (key i o ho).2
    rw [if_pos hi] at this
    refine hasEdge_spec (this j hj ?_)
    rw [List.any_eq_true]
    exact ⟨t, ht, by simp [dstIs, hoj, hd]⟩
  · intro i o ho hi
    have := (key i o ho).2
    rw [if_neg (by omega), if_neg (by omega)] at this
    exact hasEdge_spec this
  · intro o ho j hj L hc hL
    have := (key n o ho).2
    rw [if_neg (by omega), if_pos rfl] at this
    exact coverB_spec hc (this j hj) hL

/-- What is left comes in its own order. -/
theorem wpAny_chain {n : Nat} (D : DrawOK ops n) : ∀ (l : List Oper) (k : Nat) (listed : Array Bool) (a : Act) (w : World), n ≤ k → k ≤ ops.size → (∀ j, l[j]? = ops[k + j]?) → listed.size = ops.size →
    (∀ i, i < ops.size → (listed.getD i false = true ↔ i < k)) → wpList P ops Q l a w → wpAny P .any ops Q l.length listed a w
  | [], k, listed, a, w, hn, hk, hl, hsz, hL, h => by
    have hk' : ops.size ≤ k := by
      have := hl 0
      simp only [List.getElem?_nil, Nat.add_zero] at this
      rcases Nat.lt_or_ge k ops.size with h' | h'
      · rw [Array.getElem?_eq_getElem h'] at this; cases this
      · exact h'
    refine ⟨?_, h⟩
    refine List.eq_nil_iff_forall_not_mem.2 fun i hi => ?_
    obtain ⟨h1, o, ho, _⟩ := mem_ready.1 hi
    have hi' : i < ops.size := (Array.getElem?_eq_some_iff.1 ho).1
    rw [getD_tf (by omega)] at h1
    rw [(hL i hi').2 (by omega)] at h1; cases h1
  | o :: os, k, listed, a, w, hn, hk, hl, hsz, hL, h => by
    have ho : ops[k]? = some o := by have := hl 0; simpa using this.symm
    have hklt : k < ops.size := (Array.getElem?_eq_some_iff.1 ho).1
    have only : ∀ i ∈ Region.ready .any ops listed, i = k := by
      intro i hi
      obtain ⟨h1, oi, hoi, hall⟩ := mem_ready.1 hi
      have hi' : i < ops.size := (Array.getElem?_eq_some_iff.1 hoi).1
      rw [getD_tf (by omega)] at h1
      have hge : k ≤ i := by
        rcases Nat.lt_or_ge i k with h' | h'
        · rw [(hL i hi').2 h'] at h1; cases h1
        · exact h'
      rcases Nat.lt_or_ge k i with h' | h'
      · obtain ⟨e, he, hon, hb⟩ := D.post i oi hoi (by omega)
        have := hall e he hb
        rw [hon] at this
        have := (hL (i - 1) (by omega)).1 this
        omega
      · omega
    have hready : k ∈ Region.ready .any ops listed := by
      refine mem_ready.2 ⟨?_, o, ho, fun e he hb => ?_⟩
      · rw [getD_tf (by omega)]
        cases hq : listed.getD k false with
        | true => have := (hL k hklt).1 hq; omega
        | false => rfl
      · have := D.back k o ho e he hb
        exact (hL e.on (by omega)).2 this
    refine ⟨fun h0 => by rw [h0] at hready; simp at hready, fun i hi => ?_⟩
    have := only i hi; subst this
    have ih : ∀ a w, wpList P ops Q os a w → wpAny P .any ops Q os.length (listed.setIfInBounds i true) a w := fun a w h =>
      wpAny_chain D os (i + 1) _ a w (by omega) (by omega) (fun j => by have := hl (j + 1); simp only [List.getElem?_cons_succ] at this; rw [this]; congr 1; omega) (by simp [hsz]) (fun i' hi' => by
        by_cases e : i' = i
        · subst e; simp [hsz, hi']
        · rw [getD_set_ne false (Ne.symm e), hL i' hi']; omega) h
    unfold wpOp
    simp only [ho]
    unfold wpList at h
    split
    · rename_i hw
      rw [if_pos hw] at h
      rcases h with h | h
      · exact .inl (Oper.wp_mono ih h)
      · exact .inr h
    · rename_i hw
      rw [if_neg hw] at h
      exact ih _ _ h

def left (n : Nat) (L : Nat → Bool) : Nat := ((List.range n).filter fun i => !L i).length
theorem left_set {L : Nat → Bool} {i : Nat} (hL : L i = false) : ∀ {n : Nat}, left n (setL L i) + (if i < n then 1 else 0) = left n L
  | 0 => by simp [left]
  | n + 1 => by
    have ih := left_set hL (n := n)
    unfold left at ih ⊢
    rw [List.range_succ, List.filter_append, List.filter_append, List.length_append, List.length_append]
    by_cases e : n = i
    · subst e
      have h1 : ¬ n < n := by omega
      rw [if_neg h1] at ih
      have h2 : n < n + 1 := by omega
      rw [if_pos h2]
      simp [setL, hL] at ih ⊢
      omega
    · have h1 : (i < n + 1) = (i < n) := by simp only [eq_iff_iff]; omega
      simp only [h1]
      have h2 : setL L i n = L n := by simp [setL, e]
      simp only [List.filter_cons, List.filter_nil, h2]
      omega
theorem left_zero {L : Nat → Bool} : ∀ {n : Nat}, left n L = 0 → ∀ i, i < n → L i = true
  | 0, _, i, h => by omega
  | n + 1, h, i, hi => by
    unfold left at h
    rw [List.range_succ, List.filter_append, List.length_append] at h
    have h1 : left n L = 0 := by unfold left; omega
    rcases Nat.lt_or_ge i n with h' | h'
    · exact left_zero h1 i h'
    · have : i = n := by omega
      subst this
      cases hq : L i with
      | true => rfl
      | false => simp [hq] at h

theorem wpAny_pre (C : Ctx P T) {n : Nat} (D : DrawOK ops n) (G : Good T P N ops s recs) (hrec : recs.length = n) (hop : ∀ (i : Nat) (r : DR), recs[i]? = some r → ops[i]? = some r.o) (rest : List Oper) (hrest : ∀ j, rest[j]? = ops[n + j]?) (hnle : n ≤ ops.size)
    (fin : ∀ (L : Nat → Bool) m kk a w, (∀ i, i < n → L i = true) → RD s recs L N B0 F0 w0 m kk a w → wpList P ops Q rest a w) :
    ∀ (fuel : Nat) (listed : Array Bool) (m : Nat → Value) (kk : Nat → Nat) (a : Act) (w : World), listed.size = ops.size → (∀ k, n ≤ k → listed.getD k false = false) → Closed ops (fun i => listed.getD i false) → fuel = left n (fun i => listed.getD i false) + rest.length →
      RD s recs (fun i => listed.getD i false) N B0 F0 w0 m kk a w → wpAny P .any ops Q fuel listed a w := by
  intro fuel
  induction fuel with
  | zero =>
    intro listed m kk a w hsz hpost hcl hf R
    have h0 : left n (fun i => listed.getD i false) = 0 := by omega
    have hr : rest = [] := List.eq_nil_of_length_eq_zero (by omega)
    have hall := left_zero h0
    have := wpAny_chain (P := P) D rest n listed a w (Nat.le_refl _) hnle hrest hsz (fun i hi => ⟨fun h => (Nat.lt_or_ge i n).elim id (fun h' => by rw [hpost i h'] at h; cases h), fun h => hall i h⟩) (fin _ m kk a w hall R)
    rw [hr] at this; exact this
  | succ fuel ih =>
    intro listed m kk a w hsz hpost hcl hf R
    rcases Nat.eq_zero_or_pos (left n (fun i => listed.getD i false)) with h0 | hpos
    · have hall := left_zero h0
      have := wpAny_chain (P := P) D rest n listed a w (Nat.le_refl _) hnle hrest hsz (fun i hi => ⟨fun h => (Nat.lt_or_ge i n).elim id (fun h' => by rw [hpost i h'] at h; cases h), fun h => hall i h⟩) (fin _ m kk a w hall R)
      have e : rest.length = fuel + 1 := by omega
      rw [e] at this; exact this
    · -- one that is not done yet
      have hex : ∃ i, i < n ∧ listed.getD i false = false := by
        apply Classical.byContradiction
        intro hno
        have : left n (fun i => listed.getD i false) = 0 := by
          unfold left
          rw [List.filter_eq_nil_iff.2]
          · rfl
          · intro i hi
            rw [List.mem_range] at hi
            cases hq : listed.getD i false with
            | true => simpa using hq
            | false => exact absurd ⟨i, hi, hq⟩ hno
        omega
      obtain ⟨i0, ⟨hi0, hL0⟩, hmin⟩ := least hex
      have only : ∀ i ∈ Region.ready .any ops listed, i < n := by
        intro i hi
        obtain ⟨h1, oi, hoi, hall⟩ := mem_ready.1 hi
        rcases Nat.lt_or_ge i n with h' | h'
        · exact h'
        · rcases Nat.lt_or_ge n i with h'' | h''
          · obtain ⟨e, he, hon, hb⟩ := D.post i oi hoi h''
            have := hall e he hb
            rw [hon, hpost (i - 1) (by omega)] at this; cases this
          · have e : i = n := by omega
            subst e
            have := D.turn oi hoi i0 hi0 _ hcl hall
            rw [hL0] at this; cases this
      have hready : i0 ∈ Region.ready .any ops listed := by
        have hlt : i0 < ops.size := by omega
        refine mem_ready.2 ⟨by rw [getD_tf (by omega)]; exact hL0, ops[i0], Array.getElem?_eq_getElem hlt, fun e he hb => ?_⟩
        have hb' := D.back i0 _ (Array.getElem?_eq_getElem hlt) e he hb
        cases hq : listed.getD e.on false with
        | true => rfl
        | false => have := hmin e.on ⟨by omega, hq⟩; omega
      refine ⟨fun h0 => by rw [h0] at hready; simp at hready, fun i hi => ?_⟩
      have hin := only i hi
      obtain ⟨h1, oi, hoi, hall⟩ := mem_ready.1 hi
      have hlt : i < ops.size := by omega
      rw [getD_tf (by omega)] at h1
      obtain ⟨r, hr⟩ : ∃ r, recs[i]? = some r := ⟨recs[i]'(by omega), List.getElem?_eq_getElem (by omega)⟩
      have hro := hop i r hr
      have heo : oi = r.o := by rw [hoi] at hro; exact Option.some.inj hro
      subst heo
      have hset : (fun j => (listed.setIfInBounds i true).getD j false) = setL (fun j => listed.getD j false) i := by
        funext j
        by_cases e : j = i
        · subst e; simp [setL, hsz, hlt]
        · rw [getD_set_ne false (Ne.symm e)]; simp [setL, e]
      have hstep := R.step C G hr h1 hall (next := wpAny P .any ops Q fuel (listed.setIfInBounds i true)) (Q := Q) (fun a' w' m' kk' R' => by
        refine ih _ m' kk' a' w' (by simp [hsz]) ?_ ?_ ?_ (by rw [hset]; exact R')
        · intro k hk
          rw [getD_set_ne false (by omega)]; exact hpost k hk
        · rw [hset]
          intro i' o' ho' hL' e' he' hb'
          simp only [setL] at hL' ⊢
          by_cases e1 : e'.on = i
          · simp [e1]
          · rw [if_neg e1]
            by_cases e2 : i' = i
            · subst e2
              rw [hoi] at ho'; injection ho' with ho'; subst ho'
              exact hall e' he' hb'
            · rw [if_neg e2] at hL'
              exact hcl i' o' ho' hL' e' he' hb'
        · rw [hset]
          have := left_set (L := fun j => listed.getD j false) h1 (n := n)
          rw [if_pos hin] at this
          omega)
      unfold wpOp
      simp only [hoi]
      split
      · rename_i hw; rw [if_pos hw] at hstep; exact .inl hstep
      · rename_i hw; rw [if_neg hw] at hstep; exact hstep
end
end Go.Proofs.Ytpakohboamfmjab.Pl
