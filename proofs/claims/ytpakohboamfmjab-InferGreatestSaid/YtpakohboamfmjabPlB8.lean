/- 'InferGreatest' answers true, whatever the number and the checks, and leaves them as they were. No condition. -/
import Derived.Test.YtpakohboamfmjabRows
import Derived.Test.YtpakohboamfmjabPlB6
import Derived.Test.YtpakohboamfmjabPlB7
namespace Go.Proofs.Ytpakohboamfmjab
open Go.Proofs.Ytpakohboamfmjab.Pl Go.ChangeShapes Go.WideShapes Go.ChangeAt Go.RowKit

theorem Try.own : ownKnob Try.prog.godebug = none := by kernel_rfl
theorem Try.laidOut : laidOutB Try.prog = true := by kernel_rfl
set_option maxRecDepth 100000 in
theorem lifted (os : Os) (started : os.Started) (H : Type) (enc : TypeId × Value → H) :
    ReturnsInHanded {} Try.checked os 3 .any (Rows.inferGreatestSpec.pre6 enc Try.prog Try.f3 Rows.inferGreatestRow.domain false) (Rows.inferGreatestSpec.post enc Try.prog Try.f3 false true false false) := by
  refine row_of (C := Try.checked) (T := tab) (ars := [3, 23, 25, 22]) (ts := [3, 22]) (tb := 4) Try.own started (by kernel_rfl) Try.func3 Try.laidOut
    (ChangeSpec.witness6 (enc := enc) (C := Try.checked) false ⟨#[], #[.int .i64 0, .slice none 0 0], []⟩ 8 (by kernel_rfl) (by kernel_rfl) (by kernel_rfl) (by kernel_rfl))
    tok (by kernel_rfl) rfl (by decide) (by decide +kernel) rfl Try.underlying4 rfl ?_ ?_
  · intro ds h
    match ds, h with
    | [d1, d2], _ => exact ⟨rfl, rfl, rfl⟩
  · rintro xs ⟨x, r, rfl, ⟨n, hx⟩, y, r', rfl, ⟨m, hy⟩, rfl⟩
    obtain ⟨n, rfl⟩ := int_of hx
    obtain ⟨l, hl, hb⟩ := needs_of hy
    exact PC.le (args' := [tI n, encN l]) ⟨TV.le_refl _, hl, trivial⟩ (TV.le_refl _) (law_spec n l hb)

theorem inferGreatest_holds : Rows.InferGreatestSaid :=
  OpenClaim.holds_of_wide 3 Try.f3 rfl rfl rfl rfl rfl rfl rfl ⟨rfl, rfl, rfl, rfl, rfl⟩ rfl rfl rfl rfl rfl (by kernel_rfl) Try.func3 (by kernel_rfl)
    (of_decide_eq_true (by kernel_rfl)) (by unfold Func.isWrapper; first | (rw [if_pos (by decide +kernel)]; kernel_rfl) | (rw [if_neg (by decide +kernel)]; exact ⟨rfl, rfl⟩))
    (fun os started H enc _ => lifted os started H enc)
#print axioms inferGreatest_holds
end Go.Proofs.Ytpakohboamfmjab
