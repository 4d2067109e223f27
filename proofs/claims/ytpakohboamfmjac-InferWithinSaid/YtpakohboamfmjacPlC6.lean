/- 'InferWithin' answers true, whatever the number, the checks and the bits, and leaves them as they were. No condition. -/
import Derived.Test.YtpakohboamfmjacRows
import Derived.Test.YtpakohboamfmjacPlC5
import Derived.Test.YtpakohboamfmjacPlRow
namespace Go.Proofs.Ytpakohboamfmjac
open Go.Proofs.Ytpakohboamfmjac.Pl Go.ChangeShapes Go.WideShapes Go.ChangeAt Go.RowKit

theorem int_of {n : Nat} {x : TV} (h : HasTy tab n 3 [x]) : ∃ z, x = tI z := by
  cases n with
  | zero => exact h.elim
  | succ n => obtain ⟨z, e, _⟩ := h; exact ⟨z, by injection e⟩
theorem ints_of {n : Nat} {x : TV} (h : HasTy tab n 24 [x]) : ∃ l, TV.le x (encI l) := by
  cases n with
  | zero => exact h.elim
  | succ n =>
    refine slice_le (f := cI) (by decide) ?_
    rcases h with h | ⟨es, h, _, hr⟩
    · exact .inl (by injection h)
    · refine .inr ⟨es, by injection h, fun r hr' => ?_⟩
      have := hr r hr'
      cases n with
      | zero => exact this.elim
      | succ n => obtain ⟨z, rfl, _⟩ := this; exact ⟨z, TV.leL_refl _⟩
theorem bits_of {n : Nat} {x : TV} (h : HasTy tab n 23 [x]) : ∃ l, TV.le x (encB l) := by
  cases n with
  | zero => exact h.elim
  | succ n =>
    refine slice_le (f := cB) (by decide) ?_
    rcases h with h | ⟨es, h, _, hr⟩
    · exact .inl (by injection h)
    · refine .inr ⟨es, by injection h, fun r hr' => ?_⟩
      have := hr r hr'
      cases n with
      | zero => exact this.elim
      | succ n => obtain ⟨z, rfl⟩ := this; exact ⟨z, TV.leL_refl _⟩
theorem needs_of {n : Nat} {x : TV} (h : HasTy tab n 22 [x]) : ∃ l, TV.le x (encN l) := by
  cases n with
  | zero => exact h.elim
  | succ n =>
    refine slice_le (f := cN) (by decide) ?_
    rcases h with h | ⟨es, h, _, hr⟩
    · exact .inl (by injection h)
    · refine .inr ⟨es, by injection h, fun r hr' => ?_⟩
      have := hr r hr'
      cases n with
      | zero => exact this.elim
      | succ n =>
        obtain ⟨a, b, rfl, ha, c, d, rfl, hc, rfl⟩ := this
        cases n with
        | zero => exact ha.elim
        | succ n =>
          obtain ⟨z, rfl, _⟩ := ha
          obtain ⟨y, rfl⟩ : ∃ y, c = [y] := by
            rcases hc with rfl | ⟨es, rfl, _⟩
            · exact ⟨_, rfl⟩
            · exact ⟨_, rfl⟩
          obtain ⟨l, hl⟩ := ints_of (n := n + 1) hc
          exact ⟨⟨z, l⟩, TV.le_refl _, hl, trivial⟩

theorem Try.own : ownKnob Try.prog.godebug = none := by kernel_rfl
theorem Try.laidOut : laidOutB Try.prog = true := by kernel_rfl
set_option maxRecDepth 100000 in
theorem lifted (os : Os) (started : os.Started) (H : Type) (enc : TypeId × Value → H) :
    ReturnsInHanded {} Try.checked os 3 .any (Rows.inferWithinSpec.pre6 enc Try.prog Try.f3 Rows.inferWithinRow.domain false) (Rows.inferWithinSpec.post enc Try.prog Try.f3 false true false false) := by
  refine row_of (C := Try.checked) (T := tab) (ars := [3, 4, 24, 30, 22, 23]) (ts := [3, 22, 23]) (tb := 4) Try.own started (by kernel_rfl) Try.func3 Try.laidOut
    (ChangeSpec.witness6 (enc := enc) (C := Try.checked) false ⟨#[], #[.int .i64 0, .slice none 0 0, .slice none 0 0], []⟩ 8 (by kernel_rfl) (by kernel_rfl) (by kernel_rfl) (by kernel_rfl))
    tok (by kernel_rfl) rfl (by decide) (by decide +kernel) rfl Try.underlying4 rfl ?_ ?_
  · intro ds h
    match ds, h with
    | [d1, d2, d3], _ => exact ⟨rfl, rfl, rfl⟩
  · rintro xs ⟨x, r, rfl, ⟨n, hx⟩, y, r', rfl, ⟨m, hy⟩, z, r'', rfl, ⟨k, hz⟩, rfl⟩
    obtain ⟨n, rfl⟩ := int_of hx
    obtain ⟨l, hl⟩ := needs_of hy
    obtain ⟨b, hb⟩ := bits_of hz
    exact PC.le (args' := [tI n, encN l, encB b]) ⟨TV.le_refl _, hl, hb, trivial⟩ (TV.le_refl _) (law_spec n l b)

theorem inferWithin_holds : Rows.InferWithinSaid :=
  OpenClaim.holds_of_wide 3 Try.f3 rfl rfl rfl rfl rfl rfl rfl ⟨rfl, rfl, rfl, rfl, rfl⟩ rfl rfl rfl rfl rfl (by kernel_rfl) Try.func3 (by kernel_rfl)
    (of_decide_eq_true (by kernel_rfl)) (by unfold Func.isWrapper; first | (rw [if_pos (by decide +kernel)]; kernel_rfl) | (rw [if_neg (by decide +kernel)]; exact ⟨rfl, rfl⟩))
    (fun os started H enc _ => lifted os started H enc)
#print axioms inferWithin_holds
end Go.Proofs.Ytpakohboamfmjac
