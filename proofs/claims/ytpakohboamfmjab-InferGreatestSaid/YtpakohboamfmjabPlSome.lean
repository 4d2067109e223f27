/- Whatever is asked of an operation that yields, it is asked of some value. -/
import Derived.Test.YtpakohboamfmjabPlEv
namespace Go.Proofs.Ytpakohboamfmjab.Pl
section
variable {T : TyTab} {σ : List (Nat × AO)} {W : Prop → Prop} {K : AV → Prop}
theorem loadK_some {ti : TI} {p : AV} (h : loadK ti σ K p) : ∃ v, K v := by
  unfold loadK at h
  simp only [Bool.cond_eq_ite] at h
  (repeat' split at h) <;> first | exact ⟨_, h⟩ | exact h.elim | (obtain ⟨c, _, h⟩ := h; (repeat' split at h) <;> first | exact ⟨_, h⟩ | exact h.elim)
theorem fieldAddrK_some {s : TypeId} {f : Nat} {p : AV} (h : fieldAddrK T s f K p) : ∃ v, K v := by
  unfold fieldAddrK at h
  simp only [Bool.cond_eq_ite] at h
  (repeat' split at h) <;> first | exact ⟨_, h⟩ | exact h.elim
theorem fieldK_some {s : TypeId} {f : Nat} {p : AV} (h : fieldK T s f K p) : ∃ v, K v := by
  unfold fieldK at h
  simp only [Bool.cond_eq_ite] at h
  (repeat' split at h) <;> first | exact ⟨_, h⟩ | exact h.elim
theorem indexAddrK_some {t : TypeId} {x j : AV} (h : indexAddrK T σ W t K x j) : ∃ v, K v := by
  unfold indexAddrK at h
  simp only [Bool.cond_eq_ite] at h
  (repeat' split at h) <;> first | exact ⟨_, h⟩ | exact h.elim | exact ⟨_, h.2⟩ | (obtain ⟨c, _, h⟩ := h; exact ⟨_, h⟩)
theorem indexK_some {t : TypeId} {x j : AV} (h : indexK T W t K x j) : ∃ v, K v := by
  unfold indexK at h
  (repeat' split at h) <;> first | exact ⟨_, h⟩ | exact h.elim | exact ⟨_, h.2⟩
theorem binK_some {op : BinOp} {t : TypeId} {x y : AV} (h : binK T σ W op t K x y) : ∃ v, K v := by
  unfold binK at h
  simp only [Bool.cond_eq_ite] at h
  (repeat' split at h) <;> first | exact ⟨_, h⟩ | exact h.elim | exact ⟨_, h.2⟩ | exact ⟨_, h false (fun e => by cases e)⟩ | (obtain ⟨_, h⟩ := h; (repeat' split at h) <;> first | exact ⟨_, h⟩ | exact h.elim)
theorem unK_some {op : UnOp} {x : AV} (h : unK op K x) : ∃ v, K v := by
  unfold unK at h
  (repeat' split at h) <;> first | exact ⟨_, h⟩ | exact h.elim
theorem extractK_some {i : Nat} {x : AV} (h : extractK i K x) : ∃ v, K v := by
  unfold extractK at h
  (repeat' split at h) <;> first | exact ⟨_, h⟩ | exact h.elim
theorem buildK_some {lk : Operand → Option AV} {t : TypeId} {ps : Array (Nat × Operand)} (h : buildK T lk t ps K) : ∃ v, K v := by
  unfold buildK at h
  (repeat' split at h) <;> first | exact ⟨_, h⟩ | exact h.elim
theorem sliceK_some {lk : Operand → Option AV} {t : TypeId} {lo hi mx : Option Operand} {x : AV} (h : sliceK T lk σ W t lo hi mx K x) : ∃ v, K v := by
  unfold sliceK at h
  simp only [Bool.cond_eq_ite] at h
  (repeat' split at h) <;> first | exact ⟨_, h⟩ | exact h.elim | exact ⟨_, h.2⟩
theorem lenK_some {t : TypeId} {x : AV} (h : lenK T σ t K x) : ∃ v, K v := by
  unfold lenK at h
  (repeat' split at h) <;> first | exact ⟨_, h⟩ | exact h.elim
theorem maxMinK_some {mx : Bool} {xs : List AV} (h : maxMinK mx K xs) : ∃ v, K v := by
  unfold maxMinK at h
  simp only [Bool.cond_eq_ite] at h
  (repeat' split at h) <;> first | exact ⟨_, h⟩ | exact h.elim
theorem yieldK_some {lk : Operand → Option AV} {op : Op} (h : yieldK T lk σ W op K) : ∃ v, K v := by
  unfold yieldK at h
  (repeat' split at h) <;> first | exact ⟨_, h⟩ | exact h.elim | exact loadK_some h | exact fieldAddrK_some h | exact fieldK_some h | exact indexAddrK_some h | exact indexK_some h | exact binK_some h | exact unK_some h | exact extractK_some h | exact buildK_some h | exact sliceK_some h | exact lenK_some h | exact maxMinK_some h
end
end Go.Proofs.Ytpakohboamfmjab.Pl
