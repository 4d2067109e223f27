/- The functions that 'InferIntervals' reaches: what each answers. -/
import Derived.Test.YthiaahabnbionaaProg
import Derived.Test.YthiaahabnbionaaPlEq
namespace Go.Proofs.Ythiaahabnbionaa
open Go.Proofs.Ythiaahabnbionaa.Pl
def tabL : List (Nat × TI) := [
(3, { d := .int .i64, size := 1, bytes := 8, zero := [.v (.int .i64 0)] }),
(4, { d := .bool, size := 1, bytes := 1, zero := [.v (.bool false)] }),
(23, { d := .struct [(0, 3), (1, 3), (2, 4), (3, 4), (4, 4)], size := 5, bytes := 24, zero := [.v (.int .i64 0), .v (.int .i64 0), .v (.bool false), .v (.bool false), .v (.bool false)], eqs := [0, 0, 1, 1, 1] }),
(25, { d := .struct [(0, 3), (1, 3), (2, 4), (3, 4), (4, 4)], size := 5, bytes := 24, zero := [.v (.int .i64 0), .v (.int .i64 0), .v (.bool false), .v (.bool false), .v (.bool false)], eqs := [0, 0, 1, 1, 1] }),
(35, { d := .struct [(0, 3), (1, 3)], size := 2, bytes := 16, zero := [.v (.int .i64 0), .v (.int .i64 0)] })]
def tab : TyTab := fun t => Pl.look t tabL
theorem tok : TOK Try.prog tab := tok_of (by kernel_rfl)
theorem ctx : Ctx Try.prog tab := ctx_of (l := tabL) (by kernel_rfl) (by kernel_rfl) (by kernel_rfl)

set_option maxRecDepth 10000
theorem in_spec (n : Int) : PC Try.prog 11 [.v (.int .i64 n)] (.v (.bool (decide (n ≥ -1152921504606846976) && decide (n ≤ 1152921504606846976)))) := by
  refine PC.of_ok tok Try.func11 rfl (Nat.le_of_ble_eq_true rfl) (ev_sound ctx (own := []) _ _ _ ?_)
  exact rfl

structure Iv where
  lo : Int
  hi : Int
  a : Bool
  b : Bool
  c : Bool
def Iv.enc (x : Iv) : TV := .agg [.v (.int .i64 x.lo), .v (.int .i64 x.hi), .v (.bool x.a), .v (.bool x.b), .v (.bool x.c)]
theorem in_ent : Ent Try.prog 11 := fun a w => Try.call11 a w
def inb (n : Int) : Bool := decide (n ≥ -1152921504606846976) && decide (n ≤ 1152921504606846976)
def isIv (x : Iv) : Bool :=
  if x.c then x.lo == 0 && x.hi == 0 && !x.a && !x.b
  else if (!x.a && x.lo != 0) || (!x.b && x.hi != 0) then false
  else inb x.lo && inb x.hi && (!x.a || !x.b || x.lo ≤ x.hi)

theorem toEq {α : Type} {a b : α} (h : a = b) : a = b := h

theorem isInterval_spec (x : Iv) : PC Try.prog 4 [x.enc] (.v (.bool (isIv x))) := by
  refine PC.of_ok tok Try.func4 rfl (Nat.le_of_ble_eq_true rfl) (ev_sound ctx (own := []) _ _ _ ?_)
  obtain ⟨lo, hi, a, b, c⟩ := x
  simp only [isIv, Iv.enc]
  refine ⟨fun h => ?_, fun h => ?_⟩
  · refine congrArg TV.v (congrArg Value.bool ?_)
    subst h
    simp [Pl.flip, Bool.and_assoc]
  · subst h
    refine ⟨fun h2 => ?_, fun h2 => ?_⟩
    · refine congrArg TV.v (congrArg Value.bool ?_)
      simp only [h2, if_true, Bool.false_eq_true, if_false]
    · refine ⟨in_ent, .inl ⟨_, in_spec _, ?_⟩⟩
      refine ⟨in_ent, _, fun _ => in_spec _, ?_⟩
      refine congrArg TV.v (congrArg Value.bool ?_)
      simp only [h2, Bool.false_eq_true, if_false, inb]
theorem interval_spec (x : Iv) : PC Try.prog 5 [x.enc] x.enc := by
  refine PC.of_ok tok Try.func5 rfl (Nat.le_of_ble_eq_true rfl) (ev_sound ctx (own := []) _ _ _ ?_)
  exact rfl
theorem empty_spec : PC Try.prog 13 [] (Iv.enc ⟨0, 0, false, false, true⟩) := by
  refine PC.of_ok tok Try.func13 rfl (Nat.le_of_ble_eq_true rfl) (ev_sound ctx (own := []) _ _ _ ?_)
  exact rfl
def bounds (lo hi : Int) (a b : Bool) : Iv := ⟨if a && inb lo then lo else 0, if b && inb hi then hi else 0, a && inb lo, b && inb hi, false⟩
theorem bounds_spec (lo hi : Int) (a b : Bool) : PC Try.prog 12 [.v (.int .i64 lo), .v (.int .i64 hi), .v (.bool a), .v (.bool b)] (bounds lo hi a b).enc := by
  refine PC.of_ok tok Try.func12 rfl (Nat.le_of_ble_eq_true rfl) (ev_sound ctx (own := []) _ _ _ ?_)
  refine ⟨fun h => ?_, fun h => ?_⟩
  · rw [Bool.and_assoc] at h
    refine ⟨fun h2 => ?_, fun h2 => ?_⟩
    · rw [Bool.and_assoc] at h2
      refine toEq ?_
      simp only [bounds, inb, Iv.enc, h, h2, if_true]
    · rw [Bool.and_assoc] at h2
      refine toEq ?_
      simp only [bounds, inb, Iv.enc, h, h2, if_true, if_false, Bool.false_eq_true]
  · rw [Bool.and_assoc] at h
    refine ⟨fun h2 => ?_, fun h2 => ?_⟩
    · rw [Bool.and_assoc] at h2
      refine toEq ?_
      simp only [bounds, inb, Iv.enc, h, h2, if_true, if_false, Bool.false_eq_true]
    · rw [Bool.and_assoc] at h2
      refine toEq ?_
      simp only [bounds, inb, Iv.enc, h, h2, if_false, Bool.false_eq_true]
def iJoin (x y : Iv) : Iv :=
  if x.c then y else if y.c then x else bounds (if y.lo < x.lo then y.lo else x.lo) (if y.hi > x.hi then y.hi else x.hi) (x.a && y.a) (x.b && y.b)
theorem bounds_ent : Ent Try.prog 12 := fun a w => Try.call12 a w
theorem empty_ent : Ent Try.prog 13 := fun a w => Try.call13 a w
theorem iJoin_spec (x y : Iv) : PC Try.prog 7 [x.enc, y.enc] (iJoin x y).enc := by
  refine PC.of_ok tok Try.func7 rfl (Nat.le_of_ble_eq_true rfl) (ev_sound ctx (own := []) _ _ _ ?_)
  obtain ⟨lo, hi, a, b, c⟩ := x
  obtain ⟨lo', hi', a', b', c'⟩ := y
  simp only [iJoin]
  refine ⟨fun h => ?_, fun h => ?_⟩
  · subst h
    exact rfl
  · subst h
    refine ⟨fun h => ?_, fun h => ?_⟩
    · subst h
      exact rfl
    · subst h
      refine ⟨bounds_ent, .inl ⟨_, bounds_spec _ _ _ _, ?_⟩⟩
      exact rfl
def iMeet (x y : Iv) : Iv :=
  if x.c || y.c then ⟨0, 0, false, false, true⟩ else
    let z : Iv := if y.a && (!x.a || decide (y.lo > x.lo)) then ⟨y.lo, x.hi, true, x.b, x.c⟩ else x
    let z : Iv := if y.b && (!x.b || decide (y.hi < x.hi)) then ⟨z.lo, y.hi, z.a, true, z.c⟩ else z
    if z.a && z.b && decide (z.lo > z.hi) then ⟨0, 0, false, false, true⟩ else z
theorem iMeet_spec (x y : Iv) : PC Try.prog 8 [x.enc, y.enc] (iMeet x y).enc := by
  refine PC.of_ok tok Try.func8 rfl (Nat.le_of_ble_eq_true rfl) (ev_sound ctx (own := []) _ _ _ ?_)
  obtain ⟨lo, hi, a, b, c⟩ := x
  obtain ⟨lo', hi', a', b', c'⟩ := y
  refine ⟨fun h => ?_, fun h => ?_⟩
  · refine ⟨empty_ent, .inl ⟨_, empty_spec, ?_⟩⟩
    refine toEq ?_
    simp only [iMeet, h, if_true]
    rfl
  · refine ⟨fun h1 => ?_, fun h1 => ?_⟩ <;> refine ⟨fun h2 => ?_, fun h2 => ?_⟩ <;> refine ⟨fun h3 => ⟨empty_ent, .inl ⟨_, empty_spec, toEq ?_⟩⟩, fun h3 => toEq ?_⟩ <;>
      simp only [iMeet, Iv.enc, h, h1, h2, h3, if_true, if_false, Bool.false_eq_true]
structure Bd where
  at_ : Int
  side : Int
def Bd.enc (x : Bd) : TV := .agg [.v (.int .i64 x.at_), .v (.int .i64 x.side)]
def low (x : Iv) : Bd := if x.a then ⟨x.lo, 0⟩ else ⟨0, -1⟩
def high (x : Iv) : Bd := if x.b then ⟨x.hi, 0⟩ else ⟨0, 1⟩
theorem low_spec (x : Iv) : PC Try.prog 14 [x.enc] (low x).enc := by
  refine PC.of_ok tok Try.func14 rfl (Nat.le_of_ble_eq_true rfl) (ev_sound ctx (own := []) _ _ _ ?_)
  obtain ⟨lo, hi, a, b, c⟩ := x
  cases a <;> exact ⟨fun h => by cases h <;> exact rfl, fun h => by cases h <;> exact rfl⟩
theorem high_spec (x : Iv) : PC Try.prog 15 [x.enc] (high x).enc := by
  refine PC.of_ok tok Try.func15 rfl (Nat.le_of_ble_eq_true rfl) (ev_sound ctx (own := []) _ _ _ ?_)
  obtain ⟨lo, hi, a, b, c⟩ := x
  cases b <;> exact ⟨fun h => by cases h <;> exact rfl, fun h => by cases h <;> exact rfl⟩
def less (x y : Bd) : Bool := if x.side != y.side then decide (x.side < y.side) else x.side == 0 && decide (x.at_ < y.at_)
theorem less_spec (x y : Bd) : PC Try.prog 16 [x.enc, y.enc] (.v (.bool (less x y))) := by
  refine PC.of_ok tok Try.func16 rfl (Nat.le_of_ble_eq_true rfl) (ev_sound ctx (own := []) _ _ _ ?_)
  obtain ⟨p, s⟩ := x
  obtain ⟨q, t⟩ := y
  refine ⟨fun h => toEq ?_, fun h => toEq ?_⟩
  · have h : (s != t) = true := h
    simp only [less, h, if_true]
  · have h : (s != t) = false := h
    simp only [less, h, Bool.false_eq_true, if_false]
def fits (x : Bd) : Bd := if x.side != 0 then ⟨0, x.side⟩ else if x.at_ > 1152921504606846976 then ⟨0, 1⟩ else if x.at_ < -1152921504606846976 then ⟨0, -1⟩ else x
theorem fits_spec (x : Bd) : PC Try.prog 18 [x.enc] (fits x).enc := by
  refine PC.of_ok tok Try.func18 rfl (Nat.le_of_ble_eq_true rfl) (ev_sound ctx (own := []) _ _ _ ?_)
  obtain ⟨p, s⟩ := x
  refine ⟨fun h => toEq ?_, fun h => ⟨fun h1 => toEq ?_, fun h1 => ⟨fun h2 => toEq ?_, fun h2 => toEq ?_⟩⟩⟩
  · have h : (s != 0) = true := h
    simp only [fits, h, if_true, Bd.enc]
  · have h : (s != 0) = false := h
    have h1 := of_decide_eq_true h1
    simp only [fits, h, h1, if_true, Bd.enc, Bool.false_eq_true, if_false]
  · have h : (s != 0) = false := h
    have h1 := of_decide_eq_false h1
    have h2 := of_decide_eq_true h2
    simp only [fits, h, h1, h2, if_true, Bd.enc, Bool.false_eq_true, if_false]
  · have h : (s != 0) = false := h
    have h1 := of_decide_eq_false h1
    have h2 := of_decide_eq_false h2
    simp only [fits, h, h1, h2, Bd.enc, Bool.false_eq_true, if_false]
theorem low_ent : Ent Try.prog 14 := fun a w => Try.call14 a w
theorem high_ent : Ent Try.prog 15 := fun a w => Try.call15 a w
theorem less_ent : Ent Try.prog 16 := fun a w => Try.call16 a w
theorem fits_ent : Ent Try.prog 18 := fun a w => Try.call18 a w
def between (x y : Bd) : Iv :=
  if less (fits y) (fits x) then ⟨0, 0, false, false, true⟩ else
    ⟨if (fits x).side == 0 then (fits x).at_ else 0, if (fits y).side == 0 then (fits y).at_ else 0, (fits x).side == 0, (fits y).side == 0, false⟩
theorem between_spec (x y : Bd) : PC Try.prog 17 [x.enc, y.enc] (between x y).enc := by
  refine PC.of_ok tok Try.func17 rfl (Nat.le_of_ble_eq_true rfl) (ev_sound ctx (own := []) _ _ _ ?_)
  refine ⟨fits_ent, _, fun _ => fits_spec x, ?_⟩
  refine ⟨fits_ent, _, fun _ => fits_spec y, ?_⟩
  refine ⟨less_ent, .inl ⟨_, less_spec (fits y) (fits x), ?_⟩⟩
  refine ⟨fun h => toEq ?_, fun h => ⟨fun h1 => ⟨fun h2 => toEq ?_, fun h2 => toEq ?_⟩, fun h1 => ⟨fun h2 => toEq ?_, fun h2 => toEq ?_⟩⟩⟩
  · simp only [between, h, if_true]; rfl
  · have h1 : ((fits x).side == 0) = true := h1
    have h2 : ((fits y).side == 0) = true := h2
    simp only [between, h, h1, h2, if_true, Bool.false_eq_true, if_false, Iv.enc]
  · have h1 : ((fits x).side == 0) = true := h1
    have h2 : ((fits y).side == 0) = false := h2
    simp only [between, h, h1, h2, if_true, Bool.false_eq_true, if_false, Iv.enc]
  · have h1 : ((fits x).side == 0) = false := h1
    have h2 : ((fits y).side == 0) = true := h2
    simp only [between, h, h1, h2, if_true, Bool.false_eq_true, if_false, Iv.enc]
  · have h1 : ((fits x).side == 0) = false := h1
    have h2 : ((fits y).side == 0) = false := h2
    simp only [between, h, h1, h2, Bool.false_eq_true, if_false, Iv.enc]
theorem between_ent : Ent Try.prog 17 := fun a w => Try.call17 a w
def rJoin (x y : Iv) : Iv :=
  if x.c then y else if y.c then x else
    between (if less (low y) (low x) then low y else low x) (if less (high x) (high y) then high y else high x)
theorem rJoin_spec (x y : Iv) : PC Try.prog 9 [x.enc, y.enc] (rJoin x y).enc := by
  refine PC.of_ok tok Try.func9 rfl (Nat.le_of_ble_eq_true rfl) (ev_sound ctx (own := []) _ _ _ ?_)
  refine ⟨fun h => toEq ?_, fun h => ⟨fun h1 => toEq ?_, fun h1 => ?_⟩⟩
  · simp only [rJoin, h, if_true]; rfl
  · simp only [rJoin, h, h1, if_true, Bool.false_eq_true, if_false, Iv.enc]
  · refine ⟨low_ent, _, fun _ => low_spec x, ?_⟩
    refine ⟨high_ent, _, fun _ => high_spec x, ?_⟩
    refine ⟨low_ent, _, fun _ => low_spec y, ?_⟩
    refine ⟨less_ent, _, fun _ => less_spec (low y) (low x), ?_⟩
    refine ⟨fun h2 => ?_, fun h2 => ?_⟩
    · refine ⟨low_ent, .inl ⟨_, low_spec y, ?_⟩⟩
      refine ⟨high_ent, _, fun _ => high_spec y, ?_⟩
      refine ⟨less_ent, _, fun _ => less_spec (high x) (high y), ?_⟩
      refine ⟨fun h3 => ?_, fun h3 => ?_⟩
      · refine ⟨high_ent, .inl ⟨_, high_spec y, ?_⟩⟩
        refine ⟨between_ent, .inl ⟨_, between_spec (low y) (high y), ?_⟩⟩
        refine toEq ?_
        simp only [rJoin, h, h1, h2, h3, if_true, Bool.false_eq_true, if_false]
        rfl
      · refine ⟨between_ent, .inl ⟨_, between_spec (low y) (high x), ?_⟩⟩
        refine toEq ?_
        simp only [rJoin, h, h1, h2, h3, if_true, Bool.false_eq_true, if_false]
        rfl
    · refine ⟨high_ent, _, fun _ => high_spec y, ?_⟩
      refine ⟨less_ent, _, fun _ => less_spec (high x) (high y), ?_⟩
      refine ⟨fun h3 => ?_, fun h3 => ?_⟩
      · refine ⟨high_ent, .inl ⟨_, high_spec y, ?_⟩⟩
        refine ⟨between_ent, .inl ⟨_, between_spec (low x) (high y), ?_⟩⟩
        refine toEq ?_
        simp only [rJoin, h, h1, h2, h3, if_true, Bool.false_eq_true, if_false]
        rfl
      · refine ⟨between_ent, .inl ⟨_, between_spec (low x) (high x), ?_⟩⟩
        refine toEq ?_
        simp only [rJoin, h, h1, h2, h3, Bool.false_eq_true, if_false]
        rfl
def rMeet (x y : Iv) : Iv :=
  if x.c || y.c then ⟨0, 0, false, false, true⟩ else
    between (if less (low x) (low y) then low y else low x) (if less (high y) (high x) then high y else high x)
theorem rMeet_spec (x y : Iv) : PC Try.prog 10 [x.enc, y.enc] (rMeet x y).enc := by
  refine PC.of_ok tok Try.func10 rfl (Nat.le_of_ble_eq_true rfl) (ev_sound ctx (own := []) _ _ _ ?_)
  refine ⟨fun h => toEq ?_, fun h1 => ?_⟩
  · simp only [rMeet, h, if_true]; rfl
  · refine ⟨low_ent, _, fun _ => low_spec x, ?_⟩
    refine ⟨high_ent, _, fun _ => high_spec x, ?_⟩
    refine ⟨low_ent, _, fun _ => low_spec y, ?_⟩
    refine ⟨less_ent, _, fun _ => less_spec (low x) (low y), ?_⟩
    refine ⟨fun h2 => ?_, fun h2 => ?_⟩
    · refine ⟨low_ent, .inl ⟨_, low_spec y, ?_⟩⟩
      refine ⟨high_ent, _, fun _ => high_spec y, ?_⟩
      refine ⟨less_ent, _, fun _ => less_spec (high y) (high x), ?_⟩
      refine ⟨fun h3 => ?_, fun h3 => ?_⟩
      · refine ⟨high_ent, .inl ⟨_, high_spec y, ?_⟩⟩
        refine ⟨between_ent, .inl ⟨_, between_spec (low y) (high y), ?_⟩⟩
        refine toEq ?_
        simp only [rMeet, h1, h2, h3, if_true, Bool.false_eq_true, if_false]
        rfl
      · refine ⟨between_ent, .inl ⟨_, between_spec (low y) (high x), ?_⟩⟩
        refine toEq ?_
        simp only [rMeet, h1, h2, h3, if_true, Bool.false_eq_true, if_false]
        rfl
    · refine ⟨high_ent, _, fun _ => high_spec y, ?_⟩
      refine ⟨less_ent, _, fun _ => less_spec (high y) (high x), ?_⟩
      refine ⟨fun h3 => ?_, fun h3 => ?_⟩
      · refine ⟨high_ent, .inl ⟨_, high_spec y, ?_⟩⟩
        refine ⟨between_ent, .inl ⟨_, between_spec (low x) (high y), ?_⟩⟩
        refine toEq ?_
        simp only [rMeet, h1, h2, h3, if_true, Bool.false_eq_true, if_false]
        rfl
      · refine ⟨between_ent, .inl ⟨_, between_spec (low x) (high x), ?_⟩⟩
        refine toEq ?_
        simp only [rMeet, h1, h2, h3, Bool.false_eq_true, if_false]
        rfl
theorem iJoin_ent : Ent Try.prog 7 := fun a w => Try.call7 a w
theorem iMeet_ent : Ent Try.prog 8 := fun a w => Try.call8 a w
theorem rJoin_ent : Ent Try.prog 9 := fun a w => Try.call9 a w
theorem rMeet_ent : Ent Try.prog 10 := fun a w => Try.call10 a w
theorem isInterval_ent : Ent Try.prog 4 := fun a w => Try.call4 a w
theorem interval_ent : Ent Try.prog 5 := fun a w => Try.call5 a w
theorem sane_ent : Ent Try.prog 6 := fun a w => Try.call6 a w
theorem sane_spec : PC Try.prog 6 [] (.v (.bool true)) := by
  refine PC.of_ok tok Try.func6 rfl (Nat.le_of_ble_eq_true rfl) (ev_sound ctx (own := []) _ _ _ ?_)
  refine ⟨iJoin_ent, .inl ⟨_, iJoin_spec ⟨1, 2, true, true, false⟩ ⟨5, 5, true, true, false⟩, ?_⟩⟩
  refine ⟨iMeet_ent, _, fun _ => iMeet_spec ⟨1, 2, true, true, false⟩ _, ?_⟩
  exact rfl
end Go.Proofs.Ythiaahabnbionaa
