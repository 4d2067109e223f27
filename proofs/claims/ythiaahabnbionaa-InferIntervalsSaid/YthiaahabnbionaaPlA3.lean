/- 'InferIntervals' answers true, whatever the two intervals, and leaves them as they were. No condition. -/
import Derived.Test.YthiaahabnbionaaRows
import Derived.Test.YthiaahabnbionaaPlA2
import Derived.Test.YthiaahabnbionaaPlRow
namespace Go.Proofs.Ythiaahabnbionaa
open Go.Proofs.Ythiaahabnbionaa.Pl Go.ChangeShapes Go.WideShapes Go.ChangeAt Go.RowKit

theorem iv_of {n : Nat} {x : TV} (h : ArgTy tab n 23 x) : ∃ i : Iv, x = i.enc := by
  obtain ⟨cs, rfl, h⟩ := h
  cases n with
  | zero => exact h.elim
  | succ n =>
    obtain ⟨c0, r0, rfl, h0, c1, r1, rfl, h1, c2, r2, rfl, h2, c3, r3, rfl, h3, c4, r4, rfl, h4, rfl⟩ := h
    cases n with
    | zero => exact h0.elim
    | succ n =>
      obtain ⟨z0, rfl, _⟩ := h0
      obtain ⟨z1, rfl, _⟩ := h1
      obtain ⟨z2, rfl⟩ := h2
      obtain ⟨z3, rfl⟩ := h3
      obtain ⟨z4, rfl⟩ := h4
      exact ⟨⟨z0, z1, z2, z3, z4⟩, rfl⟩

theorem Try.own : ownKnob Try.prog.godebug = none := by kernel_rfl
theorem Try.laidOut : laidOutB Try.prog = true := by kernel_rfl
set_option maxRecDepth 100000 in
theorem lifted (os : Os) (started : os.Started) (H : Type) (enc : TypeId × Value → H) :
    ReturnsInHanded {} Try.checked os 3 .any (Rows.inferIntervalsSpec.pre6 enc Try.prog Try.f3 Rows.inferIntervalsRow.domain false) (Rows.inferIntervalsSpec.post enc Try.prog Try.f3 false true false false) := by
  refine row_of (C := Try.checked) (T := tab) (ars := [3, 4, 23]) (ts := [23, 23]) (tb := 4) Try.own started (by kernel_rfl) Try.func3 Try.laidOut
    (ChangeSpec.witness6 (enc := enc) (C := Try.checked) false ⟨#[], #[.agg #[.int .i64 0, .int .i64 0, .bool false, .bool false, .bool false], .agg #[.int .i64 0, .int .i64 0, .bool false, .bool false, .bool false]], []⟩ 8 (by kernel_rfl) (by kernel_rfl) (by kernel_rfl) (by kernel_rfl))
    tok (by kernel_rfl) rfl (by decide) (by decide +kernel) rfl Try.underlying4 rfl ?_ ?_
  · intro ds h
    match ds, h with
    | [d1, d2], _ => exact ⟨rfl, rfl, rfl⟩
  · rintro xs ⟨x, r, rfl, ⟨n, hx⟩, y, r', rfl, ⟨m, hy⟩, rfl⟩
    obtain ⟨i, rfl⟩ := iv_of hx
    obtain ⟨j, rfl⟩ := iv_of hy
    exact law_spec i j

theorem inferIntervals_holds : Rows.InferIntervalsSaid :=
  OpenClaim.holds_of_wide 3 Try.f3 rfl rfl rfl rfl rfl rfl rfl ⟨rfl, rfl, rfl, rfl, rfl⟩ rfl rfl rfl rfl rfl (by kernel_rfl) Try.func3 (by kernel_rfl)
    (of_decide_eq_true (by kernel_rfl)) (by unfold Func.isWrapper; first | (rw [if_pos (by decide +kernel)]; kernel_rfl) | (rw [if_neg (by decide +kernel)]; exact ⟨rfl, rfl⟩))
    (fun os started H enc _ => lifted os started H enc)
#print axioms inferIntervals_holds
end Go.Proofs.Ythiaahabnbionaa
