/- What yields a value is carried out so in memory: operators, parts, the rest. -/
import Derived.Test.YtpakohboamfmjabPlYield2
namespace Go.Proofs.Ytpakohboamfmjab.Pl
open Go.RowKit

section
variable {P : Program} {T : TyTab} {w : World} {F : Nat → Prop} {m : Nat → Value} {kk : Nat → Nat}

theorem rel_vb {b : Bool} : (vb b).rel w F m kk (.bool b) := by simp [vb, AV.rel, TV.rel, scal]
theorem rel_vi {n : Int} : (vi n).rel w F m kk (.int .i64 n) := by simp [vi, AV.rel, TV.rel, scal]
theorem rel_v {x : Value} (h : scal x = true) : (AV.t (.v x)).rel w F m kk x := by simp [AV.rel, TV.rel, h]

theorem sameKind_eq {k k' : IntKind} (h : sameKind k k' = true) : k = k' := by cases k <;> cases k' <;> simp_all [sameKind]

theorem eqGuard_ii (op : BinOp) (t : TypeId) (x y : Operand) (k k' : IntKind) (a b : Int) : (eqGuard op t x y (.int k a) (.int k' b)).run P w = .ok () w := by cases op <;> rfl
theorem eqGuard_bb (op : BinOp) (t : TypeId) (x y : Operand) (a b : Bool) : (eqGuard op t x y (.bool a) (.bool b)).run P w = .ok () w := by cases op <;> rfl
theorem eqGuard_ss (op : BinOp) (t : TypeId) (x y : Operand) (a b : ByteArray) : (eqGuard op t x y (.string a) (.string b)).run P w = .ok () w := by cases op <;> rfl
theorem eqGuard_ll (op : BinOp) (t : TypeId) (x y : Operand) (A B : Option Addr) (n c n' c' : Nat) : (eqGuard op t x y (.slice A n c) (.slice B n' c')).run P w = .ok () w := by cases op <;> rfl

theorem equal_bool {t : TypeId} {op : BinOp} {pos : Bool} (hp : isEq op = some pos) (h : (underlying t).run P w = .ok .bool w) (a b : Bool) :
    (binOp op t (.bool a) (.bool b)).run P w = .ok (.bool (flip pos (a == b))) w := by
  have e : ∀ d, (Op.equalIn (d + 1) t (.bool a) (.bool b)).run P w = .ok (a == b) w := fun d => by simp only [Op.equalIn, Sem.run_bind, h, Result.andThen_ok, Sem.run_pure]
  have e' : (Op.equal t (.bool a) (.bool b)).run P w = .ok (a == b) w := e 9999
  cases op <;> simp only [isEq, Option.some.injEq] at hp <;> first | (cases hp; done) | (subst hp; simp only [binOp, Sem.run_bind, e', Result.andThen_ok, Sem.run_pure, flip, cond_true, cond_false])
theorem equal_slice {t e : TypeId} {op : BinOp} {pos : Bool} (hp : isEq op = some pos) (h : (underlying t).run P w = .ok (.slice e) w) (A : Option Addr) (n c : Nat) :
    (binOp op t (.slice A n c) (.slice none 0 0)).run P w = .ok (.bool (flip pos A.isNone)) w := by
  have e : ∀ d, (Op.equalIn (d + 1) t (.slice A n c) (.slice none 0 0)).run P w = .ok A.isNone w := by
    intro d
    cases A <;> simp only [Op.equalIn, Sem.run_bind, h, Result.andThen_ok, Sem.run_pure, Option.isNone]
  have e' : (Op.equal t (.slice A n c) (.slice none 0 0)).run P w = .ok A.isNone w := e 9999
  cases op <;> simp only [isEq, Option.some.injEq] at hp <;> first | (cases hp; done) | (subst hp; simp only [binOp, Sem.run_bind, e', Result.andThen_ok, Sem.run_pure, flip, cond_true, cond_false])

theorem cmpI_run {op : BinOp} {a b : Int} {r : Bool} (h : cmpI op a b = some r) : (Op.intCmp op a b).run P w = .ok (.bool r) w ∧ (op ≠ .shl ∧ op ≠ .shr ∧ op ≠ .add ∧ op ≠ .sub ∧ op ≠ .mul ∧ op ≠ .quo ∧ op ≠ .rem ∧ op ≠ .and ∧ op ≠ .or ∧ op ≠ .xor ∧ op ≠ .andNot) := by
  cases op <;> simp [cmpI] at h <;> subst h <;> simp [Op.intCmp]

theorem cmpS_run {op : BinOp} {a b : ByteArray} {r : Bool} (h : cmpS op a b = some r) : (Op.stringOp op a b).run P w = .ok (.bool r) w := by
  cases op <;> simp only [cmpS, Option.some.injEq] at h <;> first | (cases h; done) | (subst h; simp [Op.stringOp])

theorem binK_sound (C : Ctx P T) {B0 : Nat → Prop} {F0 : Nat → Prop} {w0 : World} {σ : List (Nat × AO)} (H : Heap B0 F0 w0 σ m kk w) {W : Prop → Prop} (hW : ∀ p, W p → p) {op : BinOp} {t : TypeId} {K : AV → Prop} {x y : AV} {u v : Value} (ox oy : Operand)
    (h : binK T σ W op t K x y) (hx : x.rel w (Fc F0 B0 σ m) m kk u) (hy : y.rel w (Fc F0 B0 σ m) m kk v) :
    ∃ r z, K r ∧ r.rel w (Fc F0 B0 σ m) m kk z ∧ (do eqGuard op t ox oy u v; binOp op t u v : Sem Value).run P w = .ok z w := by
  unfold binK at h
  split at h
  · rename_i k a k' b
    simp only [AV.rel, TV.rel] at hx hy
    obtain ⟨rfl, _⟩ := hx
    obtain ⟨rfl, _⟩ := hy
    have hg := eqGuard_ii (P := P) (w := w) op t ox oy k k' a b
    cases hs : isShift op with
    | true =>
      simp only [hs, cond_true] at h
      obtain ⟨hb, h⟩ := h
      have hb := hW _ hb
      cases op <;> simp [isShift] at hs <;> simp only at h
      · exact ⟨_, _, h, rel_v rfl, by simp [hg, binOp, Op.shift, Int.not_lt.2 hb]⟩
      · exact ⟨_, _, h, rel_v rfl, by simp [hg, binOp, Op.shift, Int.not_lt.2 hb]⟩
    | false =>
      simp only [hs, cond_false] at h
      cases hk : sameKind k k' with
      | false => simp [hk] at h
      | true =>
        simp only [hk, cond_true] at h
        have := sameKind_eq hk; subst this
        split at h
        · rename_i r hr
          refine ⟨_, .bool r, h, rel_vb, ?_⟩
          have := cmpI_run (P := P) (w := w) hr
          simp only [Sem.run_bind, hg, Result.andThen_ok]
          have h2 := this.1
          cases op <;> simp [cmpI] at hr <;> simpa [binOp] using h2
        · split at h
          · rename_i q side hq
            obtain ⟨hw, h⟩ := h
            have hw := hW _ hw
            refine ⟨_, .int k q, h, rel_v rfl, ?_⟩
            simp only [Sem.run_bind, hg, Result.andThen_ok]
            cases op <;> simp only [arI, Option.some.injEq, Prod.mk.injEq] at hq <;> first | (cases hq; done) | (obtain ⟨rfl, rfl⟩ := hq; simp [binOp, Op.intArith, Op.intDiv, Op.intBits, hw]; done) | (obtain ⟨rfl, rfl⟩ := hq; simp [binOp, Op.intArith, Op.intDiv, Op.intBits])
          · exact h.elim
  · rename_i a b
    simp only [AV.rel, TV.rel] at hx hy
    obtain ⟨rfl, _⟩ := hx
    obtain ⟨rfl, _⟩ := hy
    have hg := eqGuard_ss (P := P) (w := w) op t ox oy a b
    split at h
    · rename_i r hr
      refine ⟨_, .bool r, h, rel_vb, ?_⟩
      have := cmpS_run (P := P) (w := w) hr
      simp only [Sem.run_bind, hg, Result.andThen_ok]
      cases op <;> simp [cmpS] at hr <;> simpa [binOp] using this
    · split at h
      · obtain ⟨hw, h⟩ := h
        have hw := hW _ hw
        refine ⟨_, _, h, rel_v rfl, ?_⟩
        have : ¬ ((a.size + b.size : Nat) : Int) > IntKind.i64.max := by
          have : IntKind.i64.max = 9223372036854775807 := rfl
          rw [this]; omega
        simp only [Sem.run_bind, hg, Result.andThen_ok]
        simp only [binOp, Op.stringOp, this, if_false, Sem.run_pure]
      · exact h.elim
  · rename_i a b
    simp only [AV.rel, TV.rel] at hx hy
    obtain ⟨rfl, _⟩ := hx
    obtain ⟨rfl, _⟩ := hy
    have hg := eqGuard_bb (P := P) (w := w) op t ox oy a b
    split at h
    · rename_i sz by' z q pos hT' hp
      obtain ⟨d, hd, hun⟩ := C.tok.under (w := w) hT'
      simp only [Ty.fits] at hd; subst hd
      refine ⟨_, _, h, rel_vb, ?_⟩
      simp only [Sem.run_bind, hg, Result.andThen_ok, equal_bool hp hun]
    · exact h.elim
  · rename_i xs ys
    simp only [AV.rel, TV.rel] at hx hy
    obtain ⟨us, rfl, hus, _⟩ := hx
    obtain ⟨vs, rfl, hvs, _⟩ := hy
    split at h
    · rename_i d sz by' z l ls pos hT' hp
      split at h
      · rename_i r hr
        obtain ⟨h1, h2⟩ := C.eqk _ _ _ _ hT' rfl
        have h2 := h2 w _ xs ys us vs r hus hvs hr
        refine ⟨_, _, h, rel_vb, ?_⟩
        simp only [Sem.run_bind, run_eqGuard_agg w op t ox oy _ _ h1, Result.andThen_ok]
        cases op <;> simp [isEq] at hp <;> subst hp <;> simp only [run_eql_struct, run_neq_struct, h2, Result.andThen_ok, flip, cond_true, cond_false]
      · exact h.elim
    · exact h.elim
  · rename_i k es
    simp only [AV.rel, TV.rel] at hx hy
    obtain ⟨A, c, us, rfl, _, _, hk0, hr, _, hm⟩ := hx
    obtain ⟨rfl, _⟩ := hy
    split at h
    · rename_i e sz by' z q pos hT' hp
      obtain ⟨d, hd, hun⟩ := C.tok.under (w := w) hT'
      simp only [Ty.fits] at hd; subst hd
      have hg := eqGuard_ll (P := P) (w := w) op t ox oy A none es.length c 0 0
      refine ⟨_, _, h A.isNone ?_, rel_vb, ?_⟩
      · intro hA
        rcases hm with hm | ⟨a, rfl, _⟩
        · have hl := TV.relR_length hr
          rw [hm, List.length_nil] at hl
          cases es with
          | nil => rfl
          | cons e es => have : 0 < (es.length + 1) * k := Nat.mul_pos (by omega) hk0; simp at hl; omega
        · simp at hA
      · simp only [Sem.run_bind, hg, Result.andThen_ok, equal_slice hp hun]
    · exact h.elim
  · simp only [AV.rel, TV.rel] at hx hy
    obtain ⟨rfl, _⟩ := hx
    obtain ⟨rfl, _⟩ := hy
    split at h
    · rename_i e sz by' z q pos hT' hp
      obtain ⟨d, hd, hun⟩ := C.tok.under (w := w) hT'
      simp only [Ty.fits] at hd; subst hd
      have hg := eqGuard_ll (P := P) (w := w) op t ox oy none none 0 0 0 0
      refine ⟨_, _, h, rel_vb, ?_⟩
      simp only [Sem.run_bind, hg, Result.andThen_ok, equal_slice hp hun, Option.isNone]
    · exact h.elim
  · rename_i l
    simp only [AV.rel, TV.rel] at hx hy
    obtain ⟨rfl, A, n, c, hm⟩ := hx
    obtain ⟨rfl, _⟩ := hy
    split at h
    · rename_i e sz by' z q pos e' k es hT' hp hl
      obtain ⟨d, hd, hun⟩ := C.tok.under (w := w) hT'
      simp only [Ty.fits] at hd; subst hd
      obtain ⟨us, ho, hr, _, hk0, _⟩ := H.ob l _ hl
      have hg := eqGuard_ll (P := P) (w := w) op t ox oy A none n c 0 0
      rw [hm] at ho ⊢
      refine ⟨_, _, h A.isNone ?_, rel_vb, ?_⟩
      · intro hA
        rcases ho.1.2 with ⟨hnil, hn⟩ | ⟨g, cap, cur, hv, _⟩
        · exact List.eq_nil_of_length_eq_zero hn
        · injection hv with h1; rw [h1] at hA; simp at hA
      · simp only [Sem.run_bind, hg, Result.andThen_ok, equal_slice hp hun]
    · exact h.elim
  · exact h.elim
end
end Go.Proofs.Ytpakohboamfmjab.Pl
