/- More objects: what was yielded is yielded. -/
import Derived.Test.YtpakohboamfmjabPlDet
namespace Go.Proofs.Ytpakohboamfmjab.Pl
section
variable {T : TyTab} {σ σ' : List (Nat × AO)} {W : Prop → Prop} {K : AV → Prop} (hs : ∀ l o, look l σ = some o → look l σ' = some o)
include hs
theorem loadK_more {ti : TI} {p : AV} (h : loadK ti σ K p) : loadK ti σ' K p := by
  unfold loadK at h ⊢
  split at h
  · exact h
  · split at h
    · rename_i hl; simp only [hs _ _ hl]; exact h
    · exact h.elim
  · split at h
    · rename_i hl; simp only [hs _ _ hl]; exact h
    · exact h.elim
  · exact h.elim
theorem indexAddrK_more {t : TypeId} {x j : AV} (h : indexAddrK T σ W t K x j) : indexAddrK T σ' W t K x j := by
  unfold indexAddrK at h ⊢
  split at h
  · split at h
    · exact h
    · split at h
      · rename_i hl he; simp only [hs _ _ hl, he]; exact h
      · exact h.elim
    · split at h
      · rename_i hl he; simp only [hs _ _ hl, he]; exact h
      · exact h.elim
    · exact h
    · exact h
    · exact h.elim
  · exact h.elim
theorem binK_more {op : BinOp} {t : TypeId} {x y : AV} (h : binK T σ W op t K x y) : binK T σ' W op t K x y := by
  unfold binK at h ⊢
  split at h
  · exact h
  · exact h
  · exact h
  · exact h
  · exact h
  · exact h
  · split at h
    · rename_i ht hp hl; simp only [ht, hp, hs _ _ hl]; exact h
    · exact h.elim
  · exact h.elim
theorem lenK_more {t : TypeId} {x : AV} (h : lenK T σ t K x) : lenK T σ' t K x := by
  unfold lenK at h ⊢
  split at h
  · exact h
  · exact h
  · exact h
  · split at h
    · rename_i hl; simp only [hs _ _ hl]; exact h
    · exact h.elim
  · exact h
  · exact h
  · exact h.elim
theorem sliceK_more {lk : Operand → Option AV} {t : TypeId} {lo hi mx : Option Operand} {x : AV} (h : sliceK T lk σ W t lo hi mx K x) : sliceK T lk σ' W t lo hi mx K x := by
  unfold sliceK at h ⊢
  split at h
  · exact h
  · exact h
  · split at h
    · rename_i he hl; simp only [he, hs _ _ hl]; exact h
    · exact h.elim
  · split at h
    · rename_i he hl; simp only [he, hs _ _ hl]; exact h
    · exact h.elim
  · exact h.elim
theorem yieldK_more {lk : Operand → Option AV} {op : Op} (h : yieldK T lk σ W op K) : yieldK T lk σ' W op K := by
  unfold yieldK at h ⊢
  split at h
  all_goals first
    | exact h
    | (split at h <;> first | exact h.elim | exact h | exact loadK_more hs h | exact indexAddrK_more hs h | exact binK_more hs h | exact sliceK_more hs h | exact lenK_more hs h)
theorem borrow_more : ∀ (n : Nat) (x : AV) (t : TV), borrow σ n x = some t → borrow σ' n x = some t := by
  intro n
  induction n with
  | zero => intro x t h; simp [borrow] at h
  | succ n ih =>
    have hm : ∀ (cs : List AV) (xs : List TV), mapO (borrow σ n) cs = some xs → mapO (borrow σ' n) cs = some xs := by
      intro cs
      induction cs with
      | nil => intro xs h; exact h
      | cons c cs ihc =>
        intro xs h
        simp only [mapO] at h ⊢
        split at h
        · rename_i y ys hy hys
          rw [ih c y hy, ihc ys hys]; exact h
        · cases h
    intro x t h
    cases x <;> simp only [borrow] at h ⊢
    · exact h
    · split at h
      · rename_i hl
        rw [hs _ _ hl]
        split at h
        · rename_i xs hxs; simp only [hm _ _ hxs]; exact h
        · cases h
      · cases h
    · split at h
      · rename_i hl; rw [hs _ _ hl]; exact h
      · cases h
    · split at h
      · rename_i hl; rw [hs _ _ hl]; exact h
      · cases h
    · split at h
      · rename_i hl; rw [hs _ _ hl]; exact h
      · cases h
    · split at h
      · rename_i xs hxs; simp only [hm _ _ hxs]; exact h
      · cases h
    · split at h
      · rename_i xs hxs; simp only [hm _ _ hxs]; exact h
      · cases h
    · split at h
      · rename_i xs hxs; simp only [hm _ _ hxs]; exact h
      · cases h
    · cases h
theorem mapO_borrow_more (n : Nat) : ∀ (cs : List AV) (xs : List TV), mapO (borrow σ n) cs = some xs → mapO (borrow σ' n) cs = some xs
  | [], xs, h => h
  | c :: cs, xs, h => by
    simp only [mapO] at h ⊢
    split at h
    · rename_i y ys hy hys
      rw [borrow_more hs n c y hy, mapO_borrow_more n cs ys hys]; exact h
    · cases h
end
theorem evG_more {T : TyTab} {P : Program} {G : Prop} {o : Oper} {lk : Operand → Option AV} {s s' : St} {K : AV → Prop} (hs : ∀ l o, look l s.σ = some o → look l s'.σ = some o) (h : evG T P G o lk s K) : evG T P G o lk s' K := by
  have hc : ∀ {f : FuncId} {vs : List AV}, callG P G s K f vs → callG P G s' K f vs := by
    intro f vs h
    unfold callG at h ⊢
    split at h
    · rename_i xs hxs
      rw [mapO_borrow_more hs 8 _ _ hxs]; exact h
    · exact h.elim
  unfold evG at h ⊢
  split at h
  · split at h
    · exact hc h
    · exact hc h
    · exact h.elim
  · exact yieldK_more hs h
end Go.Proofs.Ytpakohboamfmjab.Pl
