/- Arguments: numbers, rows of numbers, checks. -/
import Derived.Test.YtpakohboamfmjabPlB1
import Derived.Test.YtpakohboamfmjabPlRow
namespace Go.Proofs.Ytpakohboamfmjab
open Go.Proofs.Ytpakohboamfmjab.Pl

theorem int_of {n : Nat} {x : TV} (h : HasTy tab n 3 [x]) : ∃ z, x = tI z := by
  cases n with
  | zero => exact h.elim
  | succ n => obtain ⟨z, e, _⟩ := h; exact ⟨z, by injection e⟩
theorem ints_of {n : Nat} {x : TV} (h : HasTy tab n 23 [x]) : ∃ l, TV.le x (encI l) ∧ l.length * 8 ≤ 140737488355328 := by
  cases n with
  | zero => exact h.elim
  | succ n =>
    refine slice_le (f := cI) (by decide) ?_
    rcases h with h | ⟨es, h, _, hb, hr⟩
    · exact .inl (by injection h)
    · refine .inr ⟨es, by injection h, hb, fun r hr' => ?_⟩
      have := hr r hr'
      cases n with
      | zero => exact this.elim
      | succ n => obtain ⟨z, rfl, _⟩ := this; exact ⟨z, TV.leL_refl _⟩
theorem needs_of {n : Nat} {x : TV} (h : HasTy tab n 22 [x]) : ∃ l, TV.le x (encN l) ∧ l.length * 32 ≤ 140737488355328 := by
  cases n with
  | zero => exact h.elim
  | succ n =>
    refine slice_le (f := cN) (by decide) ?_
    rcases h with h | ⟨es, h, _, hb, hr⟩
    · exact .inl (by injection h)
    · refine .inr ⟨es, by injection h, hb, fun r hr' => ?_⟩
      have := hr r hr'
      cases n with
      | zero => exact this.elim
      | succ n =>
        obtain ⟨a, b, rfl, ha, c, d, rfl, hc, rfl⟩ := this
        cases n with
        | zero => exact ha.elim
        | succ n =>
          obtain ⟨z, rfl, _⟩ := ha
          obtain ⟨y, rfl⟩ : ∃ y, c = [y] := by
            rcases hc with rfl | ⟨es, rfl, _⟩
            · exact ⟨_, rfl⟩
            · exact ⟨_, rfl⟩
          obtain ⟨l, hl, _⟩ := ints_of (n := n + 1) hc
          exact ⟨⟨z, l⟩, TV.le_refl _, hl, trivial⟩

end Go.Proofs.Ytpakohboamfmjab
