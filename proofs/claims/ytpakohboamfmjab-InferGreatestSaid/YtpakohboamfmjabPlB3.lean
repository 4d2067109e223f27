/- 'sane' of the laws about intervals, and what it reaches. -/
import Derived.Test.YtpakohboamfmjabPlB1
namespace Go.Proofs.Ytpakohboamfmjab
open Go.Proofs.Ytpakohboamfmjab.Pl
set_option maxRecDepth 10000
structure Iv where
  lo : Int
  hi : Int
  a : Bool
  b : Bool
  c : Bool
def Iv.enc (x : Iv) : TV := .agg [.v (.int .i64 x.lo), .v (.int .i64 x.hi), .v (.bool x.a), .v (.bool x.b), .v (.bool x.c)]
def inb (n : Int) : Bool := decide (n ≥ -1152921504606846976) && decide (n ≤ 1152921504606846976)
theorem empty_spec : PC Try.prog 26 [] (Iv.enc ⟨0, 0, false, false, true⟩) := by
  refine PC.of_ok tok Try.func26 rfl (Nat.le_of_ble_eq_true rfl) (ev_sound ctx (own := []) _ _ _ ?_)
  exact rfl
def bounds (lo hi : Int) (a b : Bool) : Iv := ⟨if a && inb lo then lo else 0, if b && inb hi then hi else 0, a && inb lo, b && inb hi, false⟩
theorem bounds_spec (lo hi : Int) (a b : Bool) : PC Try.prog 25 [.v (.int .i64 lo), .v (.int .i64 hi), .v (.bool a), .v (.bool b)] (bounds lo hi a b).enc := by
  refine PC.of_ok tok Try.func25 rfl (Nat.le_of_ble_eq_true rfl) (ev_sound ctx (own := []) _ _ _ ?_)
  refine ⟨fun h => ?_, fun h => ?_⟩
  · rw [Bool.and_assoc] at h
    refine ⟨fun h2 => ?_, fun h2 => ?_⟩
    · rw [Bool.and_assoc] at h2
      refine toEq ?_
      simp only [bounds, inb, Iv.enc, h, h2, if_true]
    · rw [Bool.and_assoc] at h2
      refine toEq ?_
      simp only [bounds, inb, Iv.enc, h, h2, if_true, if_false, Bool.false_eq_true]
  · rw [Bool.and_assoc] at h
    refine ⟨fun h2 => ?_, fun h2 => ?_⟩
    · rw [Bool.and_assoc] at h2
      refine toEq ?_
      simp only [bounds, inb, Iv.enc, h, h2, if_true, if_false, Bool.false_eq_true]
    · rw [Bool.and_assoc] at h2
      refine toEq ?_
      simp only [bounds, inb, Iv.enc, h, h2, if_false, Bool.false_eq_true]
def iJoin (x y : Iv) : Iv :=
  if x.c then y else if y.c then x else bounds (if y.lo < x.lo then y.lo else x.lo) (if y.hi > x.hi then y.hi else x.hi) (x.a && y.a) (x.b && y.b)
theorem bounds_ent : Ent Try.prog 25 := fun a w => Try.call25 a w
theorem empty_ent : Ent Try.prog 26 := fun a w => Try.call26 a w
theorem iJoin_spec (x y : Iv) : PC Try.prog 11 [x.enc, y.enc] (iJoin x y).enc := by
  refine PC.of_ok tok Try.func11 rfl (Nat.le_of_ble_eq_true rfl) (ev_sound ctx (own := []) _ _ _ ?_)
  obtain ⟨lo, hi, a, b, c⟩ := x
  obtain ⟨lo', hi', a', b', c'⟩ := y
  simp only [iJoin]
  refine ⟨fun h => ?_, fun h => ?_⟩
  · subst h
    exact rfl
  · subst h
    refine ⟨fun h => ?_, fun h => ?_⟩
    · subst h
      exact rfl
    · subst h
      refine ⟨bounds_ent, .inl ⟨_, bounds_spec _ _ _ _, ?_⟩⟩
      exact rfl
def iMeet (x y : Iv) : Iv :=
  if x.c || y.c then ⟨0, 0, false, false, true⟩ else
    let z : Iv := if y.a && (!x.a || decide (y.lo > x.lo)) then ⟨y.lo, x.hi, true, x.b, x.c⟩ else x
    let z : Iv := if y.b && (!x.b || decide (y.hi < x.hi)) then ⟨z.lo, y.hi, z.a, true, z.c⟩ else z
    if z.a && z.b && decide (z.lo > z.hi) then ⟨0, 0, false, false, true⟩ else z
theorem iMeet_spec (x y : Iv) : PC Try.prog 12 [x.enc, y.enc] (iMeet x y).enc := by
  refine PC.of_ok tok Try.func12 rfl (Nat.le_of_ble_eq_true rfl) (ev_sound ctx (own := []) _ _ _ ?_)
  obtain ⟨lo, hi, a, b, c⟩ := x
  obtain ⟨lo', hi', a', b', c'⟩ := y
  refine ⟨fun h => ?_, fun h => ?_⟩
  · refine ⟨empty_ent, .inl ⟨_, empty_spec, ?_⟩⟩
    refine toEq ?_
    simp only [iMeet, h, if_true]
    rfl
  · refine ⟨fun h1 => ?_, fun h1 => ?_⟩ <;> refine ⟨fun h2 => ?_, fun h2 => ?_⟩ <;> refine ⟨fun h3 => ⟨empty_ent, .inl ⟨_, empty_spec, toEq ?_⟩⟩, fun h3 => toEq ?_⟩ <;>
      simp only [iMeet, Iv.enc, h, h1, h2, h3, if_true, if_false, Bool.false_eq_true]
theorem iJoin_ent : Ent Try.prog 11 := fun a w => Try.call11 a w
theorem iMeet_ent : Ent Try.prog 12 := fun a w => Try.call12 a w
theorem sane_ent : Ent Try.prog 4 := fun a w => Try.call4 a w
theorem sane_spec : PC Try.prog 4 [] (.v (.bool true)) := by
  refine PC.of_ok tok Try.func4 rfl (Nat.le_of_ble_eq_true rfl) (ev_sound ctx (own := []) _ _ _ ?_)
  refine ⟨iJoin_ent, .inl ⟨_, iJoin_spec ⟨1, 2, true, true, false⟩ ⟨5, 5, true, true, false⟩, ?_⟩⟩
  refine ⟨iMeet_ent, _, fun _ => iMeet_spec ⟨1, 2, true, true, false⟩ _, ?_⟩
  exact rfl
end Go.Proofs.Ytpakohboamfmjab
