/- 'InferIntervals': the plain law, and what the law's function answers: true at all inputs. -/
import Derived.Test.YthiaahabnbionaaPlA1
namespace Go.Proofs.Ythiaahabnbionaa
open Go.Proofs.Ythiaahabnbionaa.Pl

structure Fine (x : Iv) : Prop where
  e : x.c = true → x = ⟨0, 0, false, false, true⟩
  l : x.a = false → x.lo = 0
  h : x.b = false → x.hi = 0
  l1 : -1152921504606846976 ≤ x.lo
  l2 : x.lo ≤ 1152921504606846976
  h1 : -1152921504606846976 ≤ x.hi
  h2 : x.hi ≤ 1152921504606846976
  o : x.a = true → x.b = true → x.lo ≤ x.hi
theorem fine_of {x : Iv} (h : isIv x = true) : Fine x := by
  obtain ⟨lo, hi, a, b, c⟩ := x
  simp only [isIv, inb] at h
  cases c
  · simp only [Bool.false_eq_true, if_false] at h
    split at h
    · cases h
    · rename_i h1
      simp only [Bool.or_eq_true, Bool.and_eq_true, Bool.not_eq_true', bne_iff_ne, decide_eq_true_eq, ne_eq] at h h1
      refine ⟨nofun, fun e => ?_, fun e => ?_, by dsimp only; omega, by dsimp only; omega, by dsimp only; omega, by dsimp only; omega, fun e1 e2 => ?_⟩
      · simp only at e ⊢
        apply Classical.byContradiction
        exact fun hn => h1 (.inl ⟨e, hn⟩)
      · simp only at e ⊢
        apply Classical.byContradiction
        exact fun hn => h1 (.inr ⟨e, hn⟩)
      · simp only at e1 e2 ⊢
        subst e1; subst e2
        simpa using h.2
  · simp only [if_true, Bool.and_eq_true, Bool.not_eq_true', beq_iff_eq] at h
    obtain ⟨⟨⟨rfl, rfl⟩, rfl⟩, rfl⟩ := h
    exact ⟨fun _ => rfl, fun _ => rfl, fun _ => rfl, by simp, by simp, by simp, by simp, nofun⟩

theorem inb_of {n : Int} (h1 : -1152921504606846976 ≤ n) (h2 : n ≤ 1152921504606846976) : inb n = true := by
  simp only [inb, Bool.and_eq_true, decide_eq_true_eq]; omega

def joinP (x y : Iv) : Iv := if x.c then y else if y.c then x else
  ⟨if x.a && y.a then (if y.lo < x.lo then y.lo else x.lo) else 0, if x.b && y.b then (if y.hi > x.hi then y.hi else x.hi) else 0, x.a && y.a, x.b && y.b, false⟩
theorem iJoin_p {x y : Iv} (hx : Fine x) (hy : Fine y) : iJoin x y = joinP x y := by
  unfold iJoin joinP bounds
  have h1 : inb (if y.lo < x.lo then y.lo else x.lo) = true := by have := hx.l1; have := hx.l2; have := hy.l1; have := hy.l2; split <;> exact inb_of (by assumption) (by assumption)
  have h2 : inb (if y.hi > x.hi then y.hi else x.hi) = true := by have := hx.h1; have := hx.h2; have := hy.h1; have := hy.h2; split <;> exact inb_of (by assumption) (by assumption)
  rw [h1, h2]; simp only [Bool.and_true]

theorem fits_low {x : Iv} (hx : Fine x) : fits (low x) = low x := by
  have := hx.l1; have := hx.l2
  obtain ⟨lo, hi, a, b, c⟩ := x
  cases a
  · rfl
  · have e1 : ¬ (lo > 1152921504606846976) := by simp only at *; omega
    have e2 : ¬ (lo < -1152921504606846976) := by simp only at *; omega
    simp only [fits, low, if_true, bne_self_eq_false, Bool.false_eq_true, if_false, e1, e2]
theorem fits_high {x : Iv} (hx : Fine x) : fits (high x) = high x := by
  have := hx.h1; have := hx.h2
  obtain ⟨lo, hi, a, b, c⟩ := x
  cases b
  · rfl
  · have e1 : ¬ (hi > 1152921504606846976) := by simp only at *; omega
    have e2 : ¬ (hi < -1152921504606846976) := by simp only at *; omega
    simp only [fits, high, if_true, bne_self_eq_false, Bool.false_eq_true, if_false, e1, e2]

theorem rJoin_p {x y : Iv} (hx : Fine x) (hy : Fine y) : rJoin x y = joinP x y := by
  unfold rJoin joinP
  have f1 : fits (if less (low y) (low x) then low y else low x) = if less (low y) (low x) then low y else low x := by split <;> first | exact fits_low hy | exact fits_low hx
  have f2 : fits (if less (high x) (high y) then high y else high x) = if less (high x) (high y) then high y else high x := by split <;> first | exact fits_high hy | exact fits_high hx
  unfold between
  rw [f1, f2]
  have o1 := hx.o; have o2 := hy.o
  obtain ⟨lo, hi, a, b, c⟩ := x
  obtain ⟨lo', hi', a', b', c'⟩ := y
  cases c <;> cases c' <;> simp only [if_true, Bool.false_eq_true, if_false]
  clear f1 f2 hx hy
  simp only at o1 o2
  cases a <;> cases b <;> cases a' <;> cases b' <;> simp only [forall_const, Bool.false_eq_true, false_implies] at o1 o2 <;> simp [low, high, less] <;> (repeat' split) <;> simp_all <;> omega
theorem rMeet_p {x y : Iv} (hx : Fine x) (hy : Fine y) : rMeet x y = iMeet x y := by
  unfold rMeet iMeet
  have f1 : fits (if less (low x) (low y) then low y else low x) = if less (low x) (low y) then low y else low x := by split <;> first | exact fits_low hy | exact fits_low hx
  have f2 : fits (if less (high y) (high x) then high y else high x) = if less (high y) (high x) then high y else high x := by split <;> first | exact fits_high hy | exact fits_high hx
  unfold between
  rw [f1, f2]
  have o1 := hx.o; have o2 := hy.o
  have l1 := hx.l; have l2 := hy.l
  have h1 := hx.h; have h2 := hy.h
  obtain ⟨lo, hi, a, b, c⟩ := x
  obtain ⟨lo', hi', a', b', c'⟩ := y
  cases c <;> cases c' <;> simp only [if_true, Bool.false_eq_true, if_false, Bool.or_true, Bool.or_false]
  clear f1 f2 hx hy
  simp only at o1 o2 l1 l2 h1 h2
  cases a <;> cases b <;> cases a' <;> cases b' <;> simp only [forall_const, Bool.false_eq_true, false_implies, reduceCtorEq] at o1 o2 l1 l2 h1 h2 <;> (try subst l1) <;> (try subst l2) <;> (try subst h1) <;> (try subst h2) <;>
    simp [low, high, less] <;> (repeat' split) <;> simp_all <;> omega
theorem joinP_fine {x y : Iv} (hx : Fine x) (hy : Fine y) : Fine (joinP x y) := by
  unfold joinP
  split
  · exact hy
  · split
    · exact hx
    · have := hx.l1; have := hx.l2; have := hx.h1; have := hx.h2; have := hy.l1; have := hy.l2; have := hy.h1; have := hy.h2
      have o1 := hx.o; have o2 := hy.o
      refine ⟨nofun, fun e => ?_, fun e => ?_, ?_, ?_, ?_, ?_, fun e1 e2 => ?_⟩
      · simp only at e ⊢; simp only [e, Bool.false_eq_true, if_false]
      · simp only at e ⊢; simp only [e, Bool.false_eq_true, if_false]
      all_goals simp only at *
      · (repeat' split) <;> omega
      · (repeat' split) <;> omega
      · (repeat' split) <;> omega
      · (repeat' split) <;> omega
      · simp only [e1, e2, if_true]
        simp only [Bool.and_eq_true] at e1 e2
        have := o1 e1.1 e2.1; have := o2 e1.2 e2.2
        (repeat' split) <;> omega
theorem absorb_join {x y : Iv} (hx : Fine x) (hy : Fine y) : joinP x (joinP x y) = joinP x y ∧ joinP y (joinP x y) = joinP x y ∧ iMeet (joinP x y) x = x := by
  have o1 := hx.o; have o2 := hy.o
  have l1 := hx.l; have l2 := hy.l
  have h1 := hx.h; have h2 := hy.h
  have e1 := hx.e; have e2 := hy.e
  obtain ⟨lo, hi, a, b, c⟩ := x
  obtain ⟨lo', hi', a', b', c'⟩ := y
  unfold joinP iMeet
  clear hx hy
  cases c <;> cases c' <;> simp only [if_true, Bool.false_eq_true, if_false, Bool.or_true, Bool.or_false] <;> simp only [forall_const, false_implies, Bool.false_eq_true, Iv.mk.injEq] at e1 e2
  · simp only at o1 o2 l1 l2 h1 h2
    cases a <;> cases b <;> cases a' <;> cases b' <;> simp only [forall_const, Bool.false_eq_true, false_implies, reduceCtorEq] at o1 o2 l1 l2 h1 h2 <;> (try subst l1) <;> (try subst l2) <;> (try subst h1) <;> (try subst h2) <;>
      refine ⟨?_, ?_, ?_⟩ <;> simp <;> (repeat' split) <;> simp_all <;> omega
  · cases a <;> cases b <;> simp only [forall_const, Bool.false_eq_true, false_implies] at o1 l1 h1 <;> refine ⟨?_, ?_, ?_⟩ <;> simp <;> (repeat' split) <;> simp_all <;> omega
  · cases a' <;> cases b' <;> simp_all
  · simp_all
structure Under (m x : Iv) : Prop where
  mc : m.c = false
  xc : x.c = false
  l : x.a = true → m.a = true ∧ x.lo ≤ m.lo
  h : x.b = true → m.b = true ∧ m.hi ≤ x.hi
  l0 : m.a = false → m.lo = x.lo
  h0 : m.b = false → m.hi = x.hi
  o : m.a = true → m.b = true → m.lo ≤ m.hi
theorem under_meet {m x : Iv} (h : Under m x) : iMeet x m = m := by
  obtain ⟨mc, xc, l, h, l0, h0, o⟩ := h
  obtain ⟨lo, hi, a, b, c⟩ := x
  obtain ⟨lo', hi', a', b', c'⟩ := m
  simp only at mc xc l h l0 h0 o
  subst mc; subst xc
  unfold iMeet
  cases a <;> cases b <;> cases a' <;> cases b' <;> simp only [forall_const, Bool.false_eq_true, false_implies, reduceCtorEq, false_and, true_and] at l h l0 h0 o <;> (try subst l0) <;> (try subst h0) <;> simp <;> (repeat' split) <;> simp_all <;> omega
theorem meet_under {x y : Iv} (hx : Fine x) (hy : Fine y) (h : (iMeet x y).c = false) : Under (iMeet x y) x ∧ Under (iMeet x y) y := by
  have o1 := hx.o; have o2 := hy.o
  have l1 := hx.l; have l2 := hy.l
  have h1 := hx.h; have h2 := hy.h
  obtain ⟨lo, hi, a, b, c⟩ := x
  obtain ⟨lo', hi', a', b', c'⟩ := y
  clear hx hy
  unfold iMeet at h ⊢
  cases c <;> cases c' <;> simp only [if_true, Bool.false_eq_true, if_false, Bool.or_true, Bool.or_false, reduceCtorEq] at h ⊢
  simp only at o1 o2 l1 l2 h1 h2
  by_cases p : lo < lo' <;> by_cases q : hi' < hi <;> cases a <;> cases b <;> cases a' <;> cases b' <;> simp only [forall_const, Bool.false_eq_true, false_implies, reduceCtorEq] at o1 o2 l1 l2 h1 h2 <;>
    simp [p, q] at h ⊢ <;> (try split at h) <;> (try cases h) <;> (try (rename_i r; simp only [r, if_false])) <;> refine ⟨⟨?_, ?_, ?_, ?_, ?_, ?_, ?_⟩, ⟨?_, ?_, ?_, ?_, ?_, ?_, ?_⟩⟩ <;> simp_all <;> omega
def same (x y : Iv) : Bool := x.lo == y.lo && (x.hi == y.hi && (x.a == y.a && (x.b == y.b && (x.c == y.c && true))))
theorem same_self (x : Iv) : same x x = true := by simp [same]
theorem meet_empty {x y : Iv} (h : y.c = true) : iMeet x y = ⟨0, 0, false, false, true⟩ := by
  unfold iMeet; simp only [h, Bool.or_true, if_true]
theorem meet_c {x y : Iv} (h : (iMeet x y).c = true) : iMeet x y = ⟨0, 0, false, false, true⟩ := by
  obtain ⟨lo, hi, a, b, c⟩ := x
  obtain ⟨lo', hi', a', b', c'⟩ := y
  unfold iMeet at h ⊢
  cases c <;> cases c' <;> simp only [if_true, Bool.false_eq_true, if_false, Bool.or_true, Bool.or_false] at h ⊢
  by_cases p : lo < lo' <;> by_cases q : hi' < hi <;> cases a <;> cases b <;> cases a' <;> cases b' <;> simp [p, q] at h ⊢ <;> split at h <;> simp_all
theorem absorb_meet {x y : Iv} (hx : Fine x) (hy : Fine y) : iMeet x (iMeet x y) = iMeet x y ∧ iMeet y (iMeet x y) = iMeet x y := by
  cases h : (iMeet x y).c with
  | true => rw [meet_c h]; exact ⟨meet_empty rfl, meet_empty rfl⟩
  | false =>
    obtain ⟨h1, h2⟩ := meet_under hx hy h
    exact ⟨under_meet h1, under_meet h2⟩

set_option maxRecDepth 10000
theorem law_spec (x y : Iv) : PC Try.prog 3 [x.enc, y.enc] (.v (.bool true)) := by
  refine PC.of_ok tok Try.func3 rfl (Nat.le_of_ble_eq_true rfl) (ev_sound ctx (own := []) _ _ _ ?_)
  refine ⟨interval_ent, .inl ⟨_, interval_spec x, ?_⟩⟩
  refine ⟨isInterval_ent, .inl ⟨_, isInterval_spec x, ?_⟩⟩
  refine ⟨interval_ent, _, fun _ => interval_spec y, ?_⟩
  refine ⟨isInterval_ent, _, fun _ => isInterval_spec y, ?_⟩
  refine ⟨fun h => ?_, fun h => ?_⟩
  · exact ⟨sane_ent, .inl ⟨_, sane_spec, rfl⟩⟩
  · have hxy : isIv x = true ∧ isIv y = true := by
      have h : (!isIv x || !isIv y) = false := h
      simpa using h
    have hx := fine_of hxy.1
    have hy := fine_of hxy.2
    refine ⟨iJoin_ent, _, fun _ => iJoin_spec x y, ?_⟩
    refine ⟨iMeet_ent, _, fun _ => iMeet_spec x y, ?_⟩
    refine ⟨interval_ent, _, fun _ => interval_spec (iJoin x y), ?_⟩
    refine ⟨interval_ent, _, fun _ => interval_spec x, ?_⟩
    refine ⟨interval_ent, _, fun _ => interval_spec y, ?_⟩
    refine ⟨rJoin_ent, _, fun _ => rJoin_spec x y, ?_⟩
    refine ⟨interval_ent, _, fun _ => interval_spec (iMeet x y), ?_⟩
    refine ⟨interval_ent, _, fun _ => interval_spec x, ?_⟩
    refine ⟨interval_ent, _, fun _ => interval_spec y, ?_⟩
    refine ⟨rMeet_ent, _, fun _ => rMeet_spec x y, ?_⟩
    have hj := absorb_join hx hy
    have hm := absorb_meet hx hy
    refine ⟨fun h => ?_, fun _ => ?_⟩
    · have h : ((!same (iJoin x y) (rJoin x y)) || (!same (iMeet x y) (rMeet x y))) = true := h
      rw [rMeet_p hx hy, rJoin_p hx hy, iJoin_p hx hy, same_self, same_self] at h
      cases h
    · refine ⟨iJoin_ent, _, fun _ => iJoin_spec x (iJoin x y), ?_⟩
      refine ⟨iJoin_ent, _, fun _ => iJoin_spec y (iJoin x y), ?_⟩
      refine ⟨iMeet_ent, _, fun _ => iMeet_spec x (iMeet x y), ?_⟩
      refine ⟨iMeet_ent, _, fun _ => iMeet_spec y (iMeet x y), ?_⟩
      refine ⟨iMeet_ent, _, fun _ => iMeet_spec (iJoin x y) x, ?_⟩
      refine ⟨sane_ent, _, fun _ => sane_spec, ?_⟩
      have fj := joinP_fine hx hy
      have e : (same (iJoin x (iJoin x y)) (iJoin x y) && same (iJoin y (iJoin x y)) (iJoin x y) && same (iMeet x (iMeet x y)) (iMeet x y) && same (iMeet y (iMeet x y)) (iMeet x y) && same (iMeet (iJoin x y) x) x && true) = true := by
        rw [iJoin_p hx hy, iJoin_p hx fj, iJoin_p hy fj, hj.1, hj.2.1, hj.2.2, hm.1, hm.2]
        simp [same_self]
      refine (congrArg (fun b => TV.v (Value.bool b)) ?_)
      exact e
end Go.Proofs.Ythiaahabnbionaa
