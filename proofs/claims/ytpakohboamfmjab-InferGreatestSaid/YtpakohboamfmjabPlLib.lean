/- Little laws that functions' proofs lean on. -/
import Derived.Test.YtpakohboamfmjabPlEq
import Derived.Laws.Runes
namespace Go.Proofs.Ytpakohboamfmjab.Pl
open Go.RowKit

theorem toEq {α : Type} {a b : α} (h : a = b) : a = b := h
theorem wr {n : Int} (h0 : 0 ≤ n) (h1 : n < 9223372036854775808) : IntKind.i64.wrap n = n := wrap_small n h0 h1
theorem wr1 {i n : Nat} (h : i < n) (hn : n ≤ maxLen) : IntKind.i64.wrap ((i : Int) + 1) = ((i + 1 : Nat) : Int) := by
  simp only [maxLen] at hn
  rw [wr (by omega) (by omega)]; simp
theorem slotI {n n' : Int} (h : n = n') : some (vi n) = some (vi n') := by rw [h]
theorem slotB {n n' : Bool} (h : n = n') : some (vb n) = some (vb n') := by rw [h]
theorem slotT {x y : TV} (h : x = y) : some (AV.t x) = some (AV.t y) := by rw [h]

section
variable {P : Program}
/-- What holds of all arguments may be taken. -/
theorem PC.have {f : FuncId} {args : List TV} {r : TV} {A : Prop} (h : ∀ (w : World) (F : Nat → Prop) (us : List Value), TV.relL w F args us → A) (hA : A → PC P f args r) : PC P f args r :=
  fun w F us hF hr => hA (h w F us hr) w F us hF hr
theorem OC.have {f : FuncId} {args : List TV} {e : TypeId} {k : Nat} {es : List (List TV)} {A : Prop} (h : ∀ (w : World) (F : Nat → Prop) (us : List Value), TV.relL w F args us → A) (hA : A → OC P f args e k es) : OC P f args e k es :=
  fun w F us hF hr => hA (h w F us hr) w F us hF hr
theorem IC.have {f : FuncId} {e : TypeId} {k : Nat} {es : List (List TV)} {args : List TV} {es' : List (List TV)} (hA : es.length ≤ maxLen → IC P f e k es args es') : IC P f e k es args es' := by
  intro w F v vs us h1 h2 h3
  refine hA ?_ w F v vs us h1 h2 h3
  rcases h3.2 with ⟨_, h0⟩ | ⟨g, cap, cur, _, _, _, h4, h5, _⟩
  · rw [h0]; exact Nat.zero_le _
  · exact Nat.le_trans h4 h5
theorem sl_len {w : World} {F : Nat → Prop} {k : Nat} {es : List (List TV)} {u : Value} (h : (TV.sl k es).rel w F u) : es.length ≤ maxLen := by
  simp only [TV.rel] at h
  obtain ⟨A, c, us, _, h1, h2, _⟩ := h
  exact Nat.le_trans h1 h2
theorem sl_len0 {w : World} {F : Nat → Prop} {k : Nat} {es : List (List TV)} {r : List TV} {us : List Value} (h : TV.relL w F (.sl k es :: r) us) : es.length ≤ maxLen := by
  simp only [TV.relL] at h
  obtain ⟨u, us', _, h, _⟩ := h
  exact sl_len h
theorem relL_tail {w : World} {F : Nat → Prop} {x : TV} {r : List TV} {us : List Value} (h : TV.relL w F (x :: r) us) : ∃ us', TV.relL w F r us' := by
  simp only [TV.relL] at h
  obtain ⟨u, us', _, _, h⟩ := h
  exact ⟨us', h⟩
/-- What an element's cells are. -/
theorem relR_mem {w : World} {F : Nat → Prop} {k : Nat} : ∀ {es : List (List TV)} {us : List Value} {c : List TV}, TV.relR w F k es us → c ∈ es → ∃ vs, TV.relL w F c vs
  | [], us, c, _, h => by simp at h
  | e :: es, us, c, h, hc => by
    simp only [TV.relR] at h
    obtain ⟨u1, u2, _, _, h1, h2⟩ := h
    rcases List.mem_cons.1 hc with rfl | hc
    · exact ⟨u1, h1⟩
    · exact relR_mem h2 hc
theorem sl_mem {w : World} {F : Nat → Prop} {k : Nat} {es : List (List TV)} {u : Value} (h : (TV.sl k es).rel w F u) {c : List TV} (hc : c ∈ es) : ∃ vs, TV.relL w F c vs := by
  simp only [TV.rel] at h
  obtain ⟨A, c', us, _, _, _, _, h, _⟩ := h
  exact relR_mem h hc
end

/-! ### Numbers -/
def cI (n : Int) : List TV := [.v (.int .i64 n)]
/-- A slice of numbers. -/
def encI (l : List Int) : TV := .sl 1 (l.map cI)
theorem encI_len {w : World} {F : Nat → Prop} {l : List Int} {u : Value} (h : (encI l).rel w F u) : l.length ≤ maxLen := by
  have := sl_len h; simpa using this

/-- The first place where p holds; or -1. -/
def idxI {α : Type} (p : α → Bool) (l : List α) : Int := match l.findIdx? p with | some i => (i : Int) | none => -1
theorem idxI_none {α : Type} {p : α → Bool} {l : List α} (h : ∀ j (hj : j < l.length), p l[j] = false) : idxI p l = -1 := by
  have : l.findIdx? p = none := by
    rw [List.findIdx?_eq_none_iff]
    intro x hx
    obtain ⟨j, hj, rfl⟩ := List.mem_iff_getElem.1 hx
    simp [h j hj]
  simp [idxI, this]
theorem idxI_some {α : Type} {p : α → Bool} {l : List α} {i : Nat} (hi : i < l.length) (h1 : p l[i] = true) (h : ∀ j (hj : j < l.length), j < i → p l[j] = false) : idxI p l = i := by
  have : l.findIdx? p = some i := by
    rw [List.findIdx?_eq_some_iff_getElem]
    exact ⟨hi, h1, fun j hj => by simp [h j (by omega) hj]⟩
  simp [idxI, this]
theorem idxI_geq {α : Type} (p : α → Bool) (l : List α) : decide (idxI p l ≥ 0) = l.any p := by
  by_cases h : l.any p = true
  · rw [h]
    have : (l.findIdx? p).isSome = true := by rw [List.findIdx?_isSome]; exact h
    obtain ⟨i, hi⟩ := Option.isSome_iff_exists.1 this
    simp [idxI, hi]
  · have h' : l.any p = false := by simpa using h
    rw [h']
    rw [idxI_none]
    · rfl
    · intro j hj
      rw [List.any_eq_false] at h'
      simpa using h' l[j] (List.getElem_mem hj)
end Go.Proofs.Ytpakohboamfmjab.Pl
namespace Go.Proofs.Ytpakohboamfmjab.Pl
theorem getM {α : Type} {f : α → List TV} {l : List α} {i : Nat} (h : i < l.length) : (0 : Int) ≤ (i : Int) ∧ (l.map f)[((i : Int)).toNat]? = some (f l[i]) := ⟨by omega, by simp [h]⟩
theorem ltOf {i n : Nat} (h : decide ((i : Int) < (n : Int)) = true) : i < n := by have := of_decide_eq_true h; omega
theorem geOf {i n : Nat} (h : decide ((i : Int) < (n : Int)) = false) : n ≤ i := by have := of_decide_eq_false h; omega
/-- So far no hit. -/
theorem noHit {α : Type} {p : α → Bool} {l : List α} {i : Nat} (hi : i < l.length) (h : ∀ j (hj : j < l.length), j < i → p l[j] = false) (h1 : p l[i] = false) : ∀ j (hj : j < l.length), j < i + 1 → p l[j] = false := by
  intro j hj hlt
  by_cases e : j = i
  · subst e; exact h1
  · exact h j hj (by omega)
end Go.Proofs.Ytpakohboamfmjab.Pl
namespace Go.Proofs.Ytpakohboamfmjab.Pl
theorem dec {n i : Nat} (h : i < n) : n - (i + 1) < n - i := by omega
end Go.Proofs.Ytpakohboamfmjab.Pl
namespace Go.Proofs.Ytpakohboamfmjab.Pl
/-- Rows that are all of a kind, up to what says less. -/
theorem rows_le {α : Type} {f : α → List TV} : ∀ {es : List (List TV)}, (∀ r ∈ es, ∃ a, TV.leL r (f a)) → ∃ l : List α, TV.leR es (l.map f)
  | [], _ => ⟨[], trivial⟩
  | r :: es, h => by
    obtain ⟨a, ha⟩ := h r (by simp)
    obtain ⟨l, hl⟩ := rows_le (es := es) (fun r hr => h r (by simp [hr]))
    exact ⟨a :: l, ha, hl⟩
theorem slice_le {α : Type} {f : α → List TV} {k B : Nat} (hk : 0 < k) {x : TV} (h : x = .v (.slice none 0 0) ∨ ∃ es, x = .sl k es ∧ es.length * B ≤ 140737488355328 ∧ ∀ r ∈ es, ∃ a, TV.leL r (f a)) :
    ∃ l : List α, TV.le x (.sl k (l.map f)) ∧ l.length * B ≤ 140737488355328 := by
  rcases h with rfl | ⟨es, rfl, hb, h⟩
  · exact ⟨[], TV.nil_le k hk, by simp⟩
  · obtain ⟨l, hl⟩ := rows_le h
    have := TV.leR_length hl
    rw [List.length_map] at this
    exact ⟨l, TV.le_sl hl, by rw [← this]; exact hb⟩
end Go.Proofs.Ytpakohboamfmjab.Pl
