/- '==' of structs whose cells are numbers, Bools and strings. -/
import Derived.Test.YtpakohboamfmjabPlTab
import Derived.Laws.StructEq
namespace Go.Proofs.Ytpakohboamfmjab.Pl
open Go.RowKit

def leafIs : Nat → TypeDesc → Bool
  | 0, .int _ => true
  | 1, .bool => true
  | 2, .string => true
  | _, _ => false
def eqFieldsB (P : Program) : Nat → List Nat → List Field → Bool
  | _, [], [] => true
  | i, l :: ls, f :: fs => Nat.beq f.offset i && !(f.name == "_") && (match P.underlying f.type with | some d => leafIs l d | none => false) && eqFieldsB P (i + 1) ls fs
  | _, _, _ => false
def eqStructB (P : Program) (t : TypeId) (ls : List Nat) : Bool :=
  (match P.underlying t with | some (.struct fs) => eqFieldsB P 0 ls fs.toList | _ => false) && !P.stoodInHeld t && !P.eqGuardType P.depth t

section
variable {P : Program}

theorem part_leaf {t : TypeId} {d : TypeDesc} {l : Nat} (hu : P.underlying t = some d) (hl : leafIs l d = true) {xs : Array Value} {off : Nat} {v : Value} (hx : xs[off]? = some v) (w : World) : (part t xs off).run P w = .ok v w := by
  unfold leafIs at hl
  split at hl <;> first | (cases hl; done) | skip
  all_goals simp [part, isAgg, Sem.run_bind, run_underlying hu, hx]

theorem leaf_int {t : TypeId} {q : IntKind} (hu : P.underlying t = some (.int q)) (d : Nat) (k : IntKind) (a b : Int) (w : World) : (Op.equalIn (d + 1) t (.int k a) (.int k b)).run P w = .ok (a == b) w := by
  simp [Op.equalIn, run_underlying hu]
theorem leaf_bool {t : TypeId} (hu : P.underlying t = some .bool) (d : Nat) (a b : Bool) (w : World) : (Op.equalIn (d + 1) t (.bool a) (.bool b)).run P w = .ok (a == b) w := by
  simp [Op.equalIn, run_underlying hu]
theorem leaf_string {t : TypeId} (hu : P.underlying t = some .string) (d : Nat) (a b : ByteArray) (w : World) : (Op.equalIn (d + 1) t (.string a) (.string b)).run P w = .ok (a.toList == b.toList) w := by
  simp [Op.equalIn, run_underlying hu, beq_toListBytes]

theorem eqFields_run (w : World) (F : Nat → Prop) (X Y : List Value) : ∀ (ls : List Nat) (fs : List Field) (i : Nat) (xs ys : List TV) (us vs : List Value) (r : Bool), eqFieldsB P i ls fs = true → TV.relL w F xs us → TV.relL w F ys vs →
    X.drop i = us → Y.drop i = vs → eqCells ls xs ys = some r → (Op.eqFields 9999 X.toArray Y.toArray fs).run P w = .ok r w
  | [], [], i, xs, ys, us, vs, r, hb, hx, hy, hX, hY, h => by
    cases xs <;> cases ys <;> simp [eqCells] at h
    subst h; simp [Op.eqFields]
  | [], f :: fs, i, xs, ys, us, vs, r, hb, hx, hy, hX, hY, h => by simp [eqFieldsB] at hb
  | l :: ls, [], i, xs, ys, us, vs, r, hb, hx, hy, hX, hY, h => by simp [eqFieldsB] at hb
  | l :: ls, f :: fs, i, xs, ys, us, vs, r, hb, hx, hy, hX, hY, h => by
    simp only [eqFieldsB, Bool.and_eq_true, Bool.not_eq_true'] at hb
    obtain ⟨⟨⟨h1, h2⟩, h3⟩, h4⟩ := hb
    have h1 := Nat.eq_of_beq_eq_true h1
    have hn : f.name ≠ "_" := by simpa using h2
    -- one field
    have step : ∀ (x y : Value) (us' vs' : List Value) (a s : Bool), us = x :: us' → vs = y :: vs' → (Op.equalIn 9999 f.type x y).run P w = .ok a w →
        (Op.eqFields 9999 X.toArray Y.toArray fs).run P w = .ok s w → (Op.eqFields 9999 X.toArray Y.toArray (f :: fs)).run P w = .ok (a && s) w := by
      intro x y us' vs' a s e1 e2 he hr
      have gx : X.toArray[f.offset]? = some x := by
        rw [h1, List.getElem?_toArray]
        have := congrArg (fun l => l[0]?) (hX.trans e1)
        simpa using this
      have gy : Y.toArray[f.offset]? = some y := by
        rw [h1, List.getElem?_toArray]
        have := congrArg (fun l => l[0]?) (hY.trans e2)
        simpa using this
      split at h3
      · rename_i d hd
        rw [Op.eqFields]
        simp only [if_pos hn, Sem.run_bind, part_leaf hd h3 gx w, part_leaf hd h3 gy w, he, Result.andThen_ok]
        cases a
        · simp
        · simpa using hr
      · cases h3
    have drop1 : ∀ {Z : List Value} {z : Value} {zs : List Value}, Z.drop i = z :: zs → Z.drop (i + 1) = zs := by
      intro Z z zs e
      rw [← List.drop_drop, e]; rfl
    -- the leaf's own comparison
    have cells : ∀ (x y : TV) (xs' ys' : List TV) (a s : Bool), xs = x :: xs' → ys = y :: ys' → eqCells ls xs' ys' = some s →
        (∀ u v, x.rel w F u → y.rel w F v → (Op.equalIn 9999 f.type u v).run P w = .ok a w) → (Op.eqFields 9999 X.toArray Y.toArray (f :: fs)).run P w = .ok (a && s) w := by
      intro x y xs' ys' a s e1 e2 hc hl
      subst e1; subst e2
      cases us with
      | nil => simp [TV.relL] at hx
      | cons u us =>
        cases vs with
        | nil => simp [TV.relL] at hy
        | cons v vs =>
          simp only [TV.relL] at hx hy
          obtain ⟨u0, us0, e1, hx1, hx2⟩ := hx
          injection e1 with e1 e1'; subst e1; subst e1'
          obtain ⟨v0, vs0, e2, hy1, hy2⟩ := hy
          injection e2 with e2 e2'; subst e2; subst e2'
          exact step u v us vs a s rfl rfl (hl u v hx1 hy1) (eqFields_run w F X Y ls fs (i + 1) xs' ys' us vs s h4 hx2 hy2 (drop1 hX) (drop1 hY) hc)
    split at h3
    · rename_i d hd
      unfold eqCells at h
      split at h
      · rename_i e0; cases e0
      · rename_i ls0 k a xs0 k2 b ys0 e0
        injection e0 with e0 e0'; subst e0; subst e0'
        split at h
        · rename_i s hs
          cases hk : sameKind k k2 with
          | false => rw [hk] at h; cases h
          | true =>
            rw [hk, cond_true] at h
            injection h with h; subst h
            have hk := sameKind_eq hk; subst hk
            refine cells _ _ _ _ _ _ rfl rfl hs ?_
            intro u v hu hv
            simp only [TV.rel] at hu hv
            obtain ⟨rfl, _⟩ := hu
            obtain ⟨rfl, _⟩ := hv
            cases d <;> simp [leafIs] at h3
            exact leaf_int hd 9998 k a b w
        · cases h
      · rename_i ls0 a xs0 b ys0 e0
        injection e0 with e0 e0'; subst e0; subst e0'
        split at h
        · rename_i s hs
          injection h with h; subst h
          refine cells _ _ _ _ _ _ rfl rfl hs ?_
          intro u v hu hv
          simp only [TV.rel] at hu hv
          obtain ⟨rfl, _⟩ := hu
          obtain ⟨rfl, _⟩ := hv
          cases d <;> simp [leafIs] at h3
          exact leaf_bool hd 9998 a b w
        · cases h
      · rename_i ls0 a xs0 b ys0 e0
        injection e0 with e0 e0'; subst e0; subst e0'
        split at h
        · rename_i s hs
          injection h with h; subst h
          refine cells _ _ _ _ _ _ rfl rfl hs ?_
          intro u v hu hv
          simp only [TV.rel] at hu hv
          obtain ⟨rfl, _⟩ := hu
          obtain ⟨rfl, _⟩ := hv
          cases d <;> simp [leafIs] at h3
          exact leaf_string hd 9998 a b w
        · cases h
      · cases h
    · cases h3

theorem eqFact_of {t : TypeId} {ls : List Nat} (h : eqStructB P t ls = true) : EqFact P t ls := by
  unfold eqStructB at h
  simp only [Bool.and_eq_true, Bool.not_eq_true'] at h
  obtain ⟨⟨h1, h2⟩, h3⟩ := h
  split at h1
  · rename_i fs hf
    have hfo : P.fieldsOf t = fs := by simp [Program.fieldsOf, hf]
    refine ⟨h3, fun w F xs ys us vs r hx hy hc => ?_⟩
    rw [run_equalIn_struct w 9999 t us.toArray vs.toArray (by rw [hfo]; exact hf) h2, hfo]
    exact eqFields_run w F us vs ls fs.toList 0 xs ys us vs r h1 hx hy rfl rfl hc
  · cases h1
end

def eqsAre (P : Program) : List (Nat × TI) → Bool
  | [] => true
  | (t, i) :: r => (match i.eqs with | [] => true | l :: ls => eqStructB P t (l :: ls)) && eqsAre P r
theorem eqs_of {P : Program} {l : List (Nat × TI)} (h : eqsAre P l = true) : ∀ t i k ls, look t l = some i → i.eqs = k :: ls → EqFact P t (k :: ls) := by
  induction l with
  | nil => intro t i k ls hl; simp [look] at hl
  | cons p r ih =>
    obtain ⟨t', i'⟩ := p
    simp only [eqsAre, Bool.and_eq_true] at h
    intro t i k ls hl he
    rw [look_cons] at hl
    by_cases e : t = t'
    · simp only [e, if_true, Option.some.injEq] at hl
      subst hl; subst e
      have := h.1
      rw [he] at this
      exact eqFact_of this
    · simp only [e, if_false] at hl
      exact ih h.2 t i k ls hl he
theorem ctx_of {P : Program} {l : List (Nat × TI)} (h1 : tabIs P l l = true) (h2 : eqsAre P l = true) (h3 : P.follows .mixedOrders = true) : Ctx P (fun t => look t l) :=
  ⟨tok_of h1, eqs_of h2, h3⟩
end Go.Proofs.Ytpakohboamfmjab.Pl
