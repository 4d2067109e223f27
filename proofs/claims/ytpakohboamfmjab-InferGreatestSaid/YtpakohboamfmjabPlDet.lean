/- What yields one value. -/
import Derived.Test.YtpakohboamfmjabPlDraw
namespace Go.Proofs.Ytpakohboamfmjab.Pl
section
variable {T : TyTab} {σ : List (Nat × AO)} {W : Prop → Prop} {K : AV → Prop}
theorem loadK_det {ti : TI} {p : AV} (h : loadK ti σ K p) : ∃ v, K v ∧ loadK ti σ (· = v) p := by
  unfold loadK at h ⊢
  simp only [Bool.cond_eq_ite] at h ⊢
  (repeat' split at h) <;> first | exact h.elim | exact ⟨_, h, by simp [*]⟩ | skip
  all_goals (obtain ⟨c, hc, h⟩ := h; (repeat' split at h) <;> first | exact h.elim | exact ⟨_, h, by simp_all⟩)
theorem fieldAddrK_det {s : TypeId} {f : Nat} {p : AV} (h : fieldAddrK T s f K p) : ∃ v, K v ∧ fieldAddrK T s f (· = v) p := by
  unfold fieldAddrK at h ⊢
  simp only [Bool.cond_eq_ite] at h ⊢
  (repeat' split at h) <;> first | exact h.elim | exact ⟨_, h, by simp_all⟩
theorem fieldK_det {s : TypeId} {f : Nat} {p : AV} (h : fieldK T s f K p) : ∃ v, K v ∧ fieldK T s f (· = v) p := by
  unfold fieldK at h ⊢
  simp only [Bool.cond_eq_ite] at h ⊢
  (repeat' split at h) <;> first | exact h.elim | exact ⟨_, h, by simp_all⟩
theorem indexAddrK_det {t : TypeId} {x j : AV} (h : indexAddrK T σ W t K x j) : ∃ v, K v ∧ indexAddrK T σ W t (· = v) x j := by
  unfold indexAddrK at h ⊢
  simp only [Bool.cond_eq_ite] at h ⊢
  (repeat' split at h) <;> first | exact h.elim | exact ⟨_, h.2, by simp_all⟩ | (obtain ⟨c, hc, h⟩ := h; exact ⟨_, h, by simp_all only [if_true]; exact ⟨c, hc, rfl⟩⟩)
theorem indexK_det {t : TypeId} {x j : AV} (h : indexK T W t K x j) : ∃ v, K v ∧ indexK T W t (· = v) x j := by
  unfold indexK at h ⊢
  (repeat' split at h) <;> first | exact h.elim | exact ⟨_, h.2, h.1, rfl⟩
theorem binK_det {op : BinOp} {t : TypeId} (hd : ∀ e s b z q, T t ≠ some { d := .slice e, size := s, bytes := b, zero := z, eqs := q }) {x y : AV} (h : binK T σ W op t K x y) : ∃ v, K v ∧ binK T σ W op t (· = v) x y := by
  unfold binK at h ⊢
  simp only [Bool.cond_eq_ite] at h ⊢
  (repeat' split at h) <;> first
    | exact h.elim
    | (exact absurd ‹T t = _› (hd _ _ _ _ _))
    | exact ⟨_, h, by simp_all⟩
    | exact ⟨_, h.2, by simp_all⟩
    | (obtain ⟨h0, h⟩ := h; (repeat' split at h) <;> first | exact h.elim | exact ⟨_, h, by simp_all⟩)
theorem unK_det {op : UnOp} {x : AV} (h : unK op K x) : ∃ v, K v ∧ unK op (· = v) x := by
  unfold unK at h ⊢
  (repeat' split at h) <;> first | exact ⟨_, h, rfl⟩ | exact h.elim
theorem extractK_det {i : Nat} {x : AV} (h : extractK i K x) : ∃ v, K v ∧ extractK i (· = v) x := by
  unfold extractK at h ⊢
  (repeat' split at h) <;> first | exact h.elim | exact ⟨_, h, by simp_all⟩
theorem buildK_det {lk : Operand → Option AV} {t : TypeId} {ps : Array (Nat × Operand)} (h : buildK T lk t ps K) : ∃ v, K v ∧ buildK T lk t ps (· = v) := by
  unfold buildK at h ⊢
  (repeat' split at h) <;> first | exact h.elim | exact ⟨_, h, by simp_all⟩
theorem sliceK_det {lk : Operand → Option AV} {t : TypeId} {lo hi mx : Option Operand} {x : AV} (h : sliceK T lk σ W t lo hi mx K x) : ∃ v, K v ∧ sliceK T lk σ W t lo hi mx (· = v) x := by
  unfold sliceK at h ⊢
  simp only [Bool.cond_eq_ite] at h ⊢
  (repeat' split at h) <;> first | exact h.elim | exact ⟨_, h.2, by simp_all⟩
theorem lenK_det {t : TypeId} {x : AV} (h : lenK T σ t K x) : ∃ v, K v ∧ lenK T σ t (· = v) x := by
  unfold lenK at h ⊢
  (repeat' split at h) <;> first | exact h.elim | exact ⟨_, h, by simp_all⟩
theorem maxMinK_det {mx : Bool} {xs : List AV} (h : maxMinK mx K xs) : ∃ v, K v ∧ maxMinK mx (· = v) xs := by
  unfold maxMinK at h ⊢
  simp only [Bool.cond_eq_ite] at h ⊢
  (repeat' split at h) <;> first | exact h.elim | exact ⟨_, h, by simp_all <;> omega⟩
theorem yieldK_det {lk : Operand → Option AV} {op : Op} (hd : detOp T op = true) (h : yieldK T lk σ W op K) : ∃ v, K v ∧ yieldK T lk σ W op (· = v) := by
  unfold yieldK at h ⊢
  (repeat' split at h) <;> first
    | exact h.elim
    | exact ⟨_, h, rfl⟩
    | exact ⟨_, h, by simp_all⟩
    | (obtain ⟨v, h1, h2⟩ := loadK_det h; exact ⟨v, h1, by simp_all⟩)
    | (obtain ⟨v, h1, h2⟩ := fieldAddrK_det h; exact ⟨v, h1, by simp_all⟩)
    | (obtain ⟨v, h1, h2⟩ := fieldK_det h; exact ⟨v, h1, by simp_all⟩)
    | (obtain ⟨v, h1, h2⟩ := indexAddrK_det h; exact ⟨v, h1, by simp_all⟩)
    | (obtain ⟨v, h1, h2⟩ := indexK_det h; exact ⟨v, h1, by simp_all⟩)
    | (obtain ⟨v, h1, h2⟩ := binK_det (by intro e s b z q he; simp [detOp, he] at hd) h; exact ⟨v, h1, by simp_all⟩)
    | (obtain ⟨v, h1, h2⟩ := unK_det h; exact ⟨v, h1, by simp_all⟩)
    | (obtain ⟨v, h1, h2⟩ := extractK_det h; exact ⟨v, h1, by simp_all⟩)
    | (obtain ⟨v, h1, h2⟩ := buildK_det h; exact ⟨v, h1, by simp_all⟩)
    | (obtain ⟨v, h1, h2⟩ := sliceK_det h; exact ⟨v, h1, by simp_all⟩)
    | (obtain ⟨v, h1, h2⟩ := lenK_det h; exact ⟨v, h1, by simp_all⟩)
    | (obtain ⟨v, h1, h2⟩ := maxMinK_det h; exact ⟨v, h1, by simp_all⟩)
theorem callG_det {P : Program} {G : Prop} {s : St} {f : FuncId} {vs : List AV} (h : callG P G s K f vs) : ∃ v, K v ∧ callG P G s (· = v) f vs := by
  unfold callG at h ⊢
  simp only [Bool.cond_eq_ite] at h ⊢
  split at h
  · obtain ⟨he, r, hp, h⟩ := h
    refine ⟨.t r, ?_, he, r, hp, ?_⟩
    · (repeat' split at h) <;> first | exact h | exact h.elim
    · (repeat' split at h) <;> first | exact h.elim | simp_all
  · exact h.elim
theorem evG_det {P : Program} {G : Prop} {o : Oper} {s : St} {lk : Operand → Option AV} (hd : detOp T o.op = true) (h : evG T P G o lk s K) : ∃ v, K v ∧ evG T P G o lk s (· = v) := by
  unfold evG at h ⊢
  split at h
  · rename_i f as ts ho
    split at h
    · rename_i g caps vs hf hvs
      obtain ⟨v, h1, h2⟩ := callG_det h
      exact ⟨v, h1, by first | exact h2 | (simp only [hf, hvs]; exact h2) | (simp only [ho, hf, hvs]; exact h2)⟩
    · rename_i g caps vs hf hvs
      obtain ⟨v, h1, h2⟩ := callG_det h
      exact ⟨v, h1, by first | exact h2 | (simp only [hf, hvs]; exact h2) | (simp only [ho, hf, hvs]; exact h2)⟩
    · exact h.elim
  · obtain ⟨v, h1, h2⟩ := yieldK_det hd h
    exact ⟨v, h1, h2⟩
end
end Go.Proofs.Ytpakohboamfmjab.Pl
