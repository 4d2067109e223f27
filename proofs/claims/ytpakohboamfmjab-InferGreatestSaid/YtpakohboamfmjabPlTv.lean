/- Values without handles (trees), and when a value in memory is one. -/
import Derived.WalkKit
import Derived.Below
namespace Go.Proofs.Ytpakohboamfmjab.Pl
open Go.RowKit

/-- A tree: what a value is that nobody writes any more. -/
inductive TV where
  | v (x : Value)
  | sl (k : Nat) (es : List (List TV))
  | ptr (cs : List TV)
  | agg (cs : List TV)
  | tup (vs : List TV)
  | fn (f : FuncId) (caps : List TV)
  | iface (t : TypeId) (x : TV)
  deriving Inhabited

/-- A value that leads to no memory, of one cell. -/
def scal : Value → Bool
  | .bool _ | .int _ _ | .string _ | .pointer none | .slice none 0 0 | .map none | .nilFunc | .nilIface => true
  | _ => false

/-- The cells from an address on. -/
def CellsAt (w : World) (a : Addr) (us : List Value) : Prop := ∀ j u, us[j]? = some u → w.cell? (a.add j) = some u

def OneAll (us : List Value) : Prop := ∀ u ∈ us, u.oneCell' = true

mutual
def TV.rel (w : World) (F : Nat → Prop) : TV → Value → Prop
  | .v x, y => y = x ∧ scal x = true
  | .sl k es, y => ∃ A c us, y = .slice A es.length c ∧ es.length ≤ c ∧ c ≤ maxLen ∧ 0 < k ∧ TV.relR w F k es us ∧ OneAll us ∧ (us = [] ∨ ∃ a, A = some a ∧ F a.block ∧ CellsAt w a us)
  | .ptr cs, y => ∃ a us, y = .pointer (some a) ∧ TV.relL w F cs us ∧ OneAll us ∧ (us = [] ∨ F a.block ∧ CellsAt w a us)
  | .agg cs, y => ∃ us, y = .agg us.toArray ∧ TV.relL w F cs us ∧ OneAll us
  | .tup vs, y => ∃ us, y = .tuple us.toArray ∧ TV.relL w F vs us
  | .fn f caps, y => ∃ us, y = .func (.func f) #[] us.toArray ∧ TV.relL w F caps us
  | .iface t x, y => ∃ u, y = .iface t u ∧ x.rel w F u
def TV.relL (w : World) (F : Nat → Prop) : List TV → List Value → Prop
  | [], us => us = []
  | c :: cs, us => ∃ u us', us = u :: us' ∧ c.rel w F u ∧ TV.relL w F cs us'
def TV.relR (w : World) (F : Nat → Prop) (k : Nat) : List (List TV) → List Value → Prop
  | [], us => us = []
  | e :: es, us => ∃ u1 u2, us = u1 ++ u2 ∧ e.length = k ∧ TV.relL w F e u1 ∧ TV.relR w F k es u2
end

/-- What trees of w stay trees in w'. -/
def Keeps (w : World) (F : Nat → Prop) (w' : World) (F' : Nat → Prop) : Prop :=
  ∀ b, F b → b < w.heap.size → F' b ∧ w'.heap[b]? = w.heap[b]?

theorem CellsAt.keep {w w' : World} {a : Addr} {us : List Value} (h : CellsAt w a us) (hb : us = [] ∨ w'.heap[a.block]? = w.heap[a.block]?) : CellsAt w' a us := by
  intro j u hj
  rcases hb with rfl | hb
  · simp at hj
  · have := h j u hj
    rw [World.cell?_of_block (w := w) (w' := w')]
    · exact this
    · have : (a.add j).block = a.block := by unfold Addr.add; split <;> rfl
      rw [this]; exact hb

theorem add_block (a : Addr) (j : Nat) : (a.add j).block = a.block := by unfold Addr.add; split <;> rfl

theorem CellsAt.lt {w : World} {a : Addr} {us : List Value} (h : CellsAt w a us) (hne : us ≠ []) : a.block < w.heap.size := by
  cases us with
  | nil => exact absurd rfl hne
  | cons u us => have := World.block_lt_of_cell? w _ (h 0 u rfl); rwa [add_block] at this

mutual
theorem TV.rel_keep {w w' : World} {F F' : Nat → Prop} (hk : Keeps w F w' F') : ∀ (x : TV) (y : Value), x.rel w F y → x.rel w' F' y
  | .v x, y, h => by simpa only [TV.rel] using h
  | .sl k es, y, h => by
    simp only [TV.rel] at h ⊢
    obtain ⟨A, c, us, h1, h2, h3, h4, h5, h6, h7⟩ := h
    refine ⟨A, c, us, h1, h2, h3, h4, TV.relR_keep hk k es us h5, h6, ?_⟩
    rcases h7 with h7 | ⟨a, ha, hF, hc⟩
    · exact .inl h7
    · by_cases he : us = []
      · exact .inl he
      · have := hk a.block hF (hc.lt he)
        exact .inr ⟨a, ha, this.1, hc.keep (.inr this.2)⟩
  | .ptr cs, y, h => by
    simp only [TV.rel] at h ⊢
    obtain ⟨a, us, h1, h2, h3, h4⟩ := h
    refine ⟨a, us, h1, TV.relL_keep hk cs _ h2, h3, ?_⟩
    rcases h4 with h4 | ⟨hF, hc⟩
    · exact .inl h4
    · by_cases he : us = []
      · exact .inl he
      · have := hk a.block hF (hc.lt he)
        exact .inr ⟨this.1, hc.keep (.inr this.2)⟩
  | .agg cs, y, h => by
    simp only [TV.rel] at h ⊢
    obtain ⟨us, h1, h2, h3⟩ := h
    exact ⟨us, h1, TV.relL_keep hk cs _ h2, h3⟩
  | .tup vs, y, h => by
    simp only [TV.rel] at h ⊢
    obtain ⟨us, h1, h2⟩ := h
    exact ⟨us, h1, TV.relL_keep hk vs _ h2⟩
  | .fn f caps, y, h => by
    simp only [TV.rel] at h ⊢
    obtain ⟨us, h1, h2⟩ := h
    exact ⟨us, h1, TV.relL_keep hk caps _ h2⟩
  | .iface t x, y, h => by
    simp only [TV.rel] at h ⊢
    obtain ⟨u, h1, h2⟩ := h
    exact ⟨u, h1, TV.rel_keep hk x u h2⟩
theorem TV.relL_keep {w w' : World} {F F' : Nat → Prop} (hk : Keeps w F w' F') : ∀ (xs : List TV) (us : List Value), TV.relL w F xs us → TV.relL w' F' xs us
  | [], us, h => by simpa only [TV.relL] using h
  | c :: cs, us, h => by
    simp only [TV.relL] at h ⊢
    obtain ⟨u, us', h1, h2, h3⟩ := h
    exact ⟨u, us', h1, TV.rel_keep hk c u h2, TV.relL_keep hk cs us' h3⟩
theorem TV.relR_keep {w w' : World} {F F' : Nat → Prop} (hk : Keeps w F w' F') (k : Nat) : ∀ (xs : List (List TV)) (us : List Value), TV.relR w F k xs us → TV.relR w' F' k xs us
  | [], us, h => by simpa only [TV.relR] using h
  | e :: es, us, h => by
    simp only [TV.relR] at h ⊢
    obtain ⟨u1, u2, h1, h2, h3, h4⟩ := h
    exact ⟨u1, u2, h1, h2, TV.relL_keep hk e u1 h3, TV.relR_keep hk k es u2 h4⟩
end
end Go.Proofs.Ytpakohboamfmjab.Pl
