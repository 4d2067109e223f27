/- What yields a value is carried out so in memory: all operations in one. -/
import Derived.Test.YtpakohboamfmjabPlYield4
namespace Go.Proofs.Ytpakohboamfmjab.Pl
open Go.RowKit

section
variable {P : Program} {T : TyTab} {w : World} {m : Nat → Value} {kk : Nat → Nat}
variable {B0 : Nat → Prop} {F0 : Nat → Prop} {w0 : World} {σ : List (Nat × AO)}

theorem yieldK_sound (C : Ctx P T) (H : Heap B0 F0 w0 σ m kk w) {lk : Operand → Option AV} {ρ : Operand → Value}
    (hl : ∀ x v, lk x = some v → v.rel w (Fc F0 B0 σ m) m kk (ρ x)) {W : Prop → Prop} (hW : ∀ p, W p → p) {o : Oper} {K : AV → Prop} (h : yieldK T lk σ W o.op K) :
    ∃ r z, K r ∧ r.rel w (Fc F0 B0 σ m) m kk z ∧ (execOp ρ o).run P w = .ok (.value z) w := by
  unfold yieldK at h
  split at h
  · rename_i x ho
    split at h
    · rename_i v hv
      exact ⟨v, ρ x, h, hl x v hv, by simp [execOp, ho]⟩
    · exact h.elim
  · rename_i x ho
    split at h
    · rename_i v hv
      exact ⟨v, ρ x, h, hl x v hv, by simp [execOp, ho]⟩
    · exact h.elim
  · rename_i t a ho
    split at h
    · rename_i ti p ht hp
      obtain ⟨r, z, hk, hr, hrun⟩ := loadK_sound C.tok H ht h (hl a p hp)
      exact ⟨r, z, hk, hr, by simp [execOp, ho, hrun]⟩
    · exact h.elim
  · rename_i s x f ho
    split at h
    · rename_i p hp
      obtain ⟨r, z, hk, hr, hrun⟩ := fieldAddrK_sound C.tok h (hl x p hp)
      exact ⟨r, z, hk, hr, by simp [execOp, ho, hrun]⟩
    · exact h.elim
  · rename_i s x f ho
    split at h
    · rename_i p hp
      obtain ⟨r, z, hk, hr, hrun⟩ := fieldK_sound C.tok h (hl x p hp)
      exact ⟨r, z, hk, hr, by simp [execOp, ho, hrun]⟩
    · exact h.elim
  · rename_i t x i ho
    split at h
    · rename_i v j hv hj
      obtain ⟨r, z, hk, hr, hrun⟩ := indexAddrK_sound C.tok H hW h (hl x v hv) (hl i j hj)
      exact ⟨r, z, hk, hr, by simp [execOp, ho, hrun]⟩
    · exact h.elim
  · rename_i t x i ho
    split at h
    · rename_i v j hv hj
      obtain ⟨r, z, hk, hr, hrun⟩ := indexK_sound C.tok hW h (hl x v hv) (hl i j hj)
      exact ⟨r, z, hk, hr, by simp [execOp, ho, hrun]⟩
    · exact h.elim
  · rename_i op t x y yt ho
    split at h
    · rename_i a b ha hb
      obtain ⟨r, z, hk, hr, hrun⟩ := binK_sound C H hW x y h (hl x a ha) (hl y b hb)
      refine ⟨r, z, hk, hr, ?_⟩
      simp only [execOp, ho, Sem.run_bind, hrun, Result.andThen_ok, Sem.run_pure]
    · exact h.elim
  · rename_i op t x ho
    split at h
    · rename_i v hv
      obtain ⟨r, z, hk, hr, hrun⟩ := unK_sound (P := P) h (hl x v hv)
      exact ⟨r, z, hk, hr, by simp [execOp, ho, hrun]⟩
    · exact h.elim
  · rename_i src dst x ho
    split at h
    · rename_i si d sz by' z q k n hsi hdi hx
      obtain ⟨d1, hd1, hun1⟩ := C.tok.under (w := w) hsi
      obtain ⟨d2, hd2, hun2⟩ := C.tok.under (w := w) hdi
      simp only [Ty.fits] at hd2; subst hd2
      have := hl x _ hx
      simp only [AV.rel, TV.rel] at this
      obtain ⟨hx', _⟩ := this
      refine ⟨_, _, h, rel_v rfl, ?_⟩
      simp only [execOp, ho, Sem.run_bind, convert, hun1, hun2, Result.andThen_ok, hx', Conv.intToInt, Sem.run_pure]
    · exact h.elim
  · rename_i x i ho
    split at h
    · rename_i v hv
      obtain ⟨r, z, hk, hr, hrun⟩ := extractK_sound (P := P) h (hl x v hv)
      exact ⟨r, z, hk, hr, by simp [execOp, ho, hrun]⟩
    · exact h.elim
  · rename_i t parts ho
    obtain ⟨r, z, hk, hr, hrun⟩ := buildK_sound C.tok hl h
    exact ⟨r, z, hk, hr, by simp [execOp, ho, hrun]⟩
  · rename_i x ho
    split at h
    · rename_i l off hx
      have hr := hl x _ hx
      have hr' := hr
      simp only [AV.rel] at hr'
      obtain ⟨g, _, he⟩ := hr'
      exact ⟨_, _, h, hr, by simp [execOp, ho, he]⟩
    · rename_i l i j hx
      have hr := hl x _ hx
      have hr' := hr
      simp only [AV.rel] at hr'
      obtain ⟨g, n, c, _, he⟩ := hr'
      exact ⟨_, _, h, hr, by simp [execOp, ho, he]⟩
    · rename_i cs hx
      have hr := hl x _ hx
      have hr' := hr
      simp only [AV.rel, TV.rel] at hr'
      obtain ⟨a, us, he, _⟩ := hr'
      exact ⟨_, _, h, hr, by simp [execOp, ho, he]⟩
    · rename_i f cs hx
      have hr := hl x _ hx
      have hr' := hr
      simp only [AV.rel, TV.rel] at hr'
      obtain ⟨us, he, _⟩ := hr'
      exact ⟨_, _, h, hr, by simp [execOp, ho, he]⟩
    · rename_i f cs hx
      have hr := hl x _ hx
      have hr' := hr
      simp only [AV.rel] at hr'
      obtain ⟨us, he, _⟩ := hr'
      exact ⟨_, _, h, hr, by simp [execOp, ho, he]⟩
    · exact h.elim
  · rename_i f first caps ho
    split at h
    · rename_i cs hf hcs
      have hrel := lkAll_rel hl _ _ hcs
      have hfirst : first = #[] := by simpa using hf
      have := rel_mkFn (f := f) hrel
      refine ⟨_, _, h, this, ?_⟩
      have hc : caps.map ρ = (caps.toList.map ρ).toArray := by rw [← Array.toList_map]
      simp [execOp, ho, hfirst, Instr.makeFunc, hc]
    · exact h.elim
  · rename_i t x ho
    split at h
    · exact h.elim
    · rename_i ti v hnot ht hx
      obtain ⟨d, hd, hun⟩ := C.tok.under (w := w) ht
      have hr := hl x _ hx
      simp only [AV.rel] at hr
      refine ⟨_, .iface t (ρ x), h, by simp only [AV.rel, TV.rel]; exact ⟨_, rfl, hr⟩, ?_⟩
      have : ∀ a, d ≠ .interface a := by
        intro a e
        subst e
        obtain ⟨dd, s1, s2, s3, s4⟩ := ti
        cases dd <;> simp only [Ty.fits] at hd <;> first | (cases hd; done) | (obtain ⟨_, h⟩ := hd; cases h; done) | (obtain ⟨_, h, _⟩ := hd; cases h; done) | (obtain ⟨_, _, _, h⟩ := hd; cases h; done) | skip
        exact hnot _ _ _ _ rfl
      simp only [execOp, ho, Sem.run_bind, Instr.makeInterface, hun, Result.andThen_ok]
      cases d <;> first | rfl | (exact absurd rfl (this _))
    · exact h.elim
  · rename_i t x lo hi mx ho
    split at h
    · rename_i v hv
      obtain ⟨r, z, hk, hr, hrun⟩ := sliceK_sound C.tok H hl hW h (hl x v hv)
      exact ⟨r, z, hk, hr, by simp [execOp, ho, hrun]⟩
    · exact h.elim
  · rename_i as ts ho
    split at h
    · rename_i x t hx ht
      have hrel := lkAll_rel hl _ _ hx
      simp only [AV.relL] at hrel
      obtain ⟨u, _, he, hu, rfl⟩ := hrel
      obtain ⟨r, z, hk, hr, hrun⟩ := lenK_sound (ty := o.type) C.tok H h hu
      have hts : ts = #[t] := by rw [← Array.toArray_toList (xs := ts), ht]
      have has : as.map ρ = #[u] := by
        rw [← Array.toArray_toList (xs := as.map ρ), Array.toList_map, he]
      refine ⟨r, z, hk, hr, ?_⟩
      simp [execOp, ho, resolve, has, hts, invoke, builtin, hrun]
    · exact h.elim
  · rename_i as ts ho
    split at h
    · rename_i xs hx
      have hrel := lkAll_rel hl _ _ hx
      obtain ⟨r, z, hk, hr, hrun⟩ := maxMinK_sound (P := P) h hrel ts o.type
      refine ⟨r, z, hk, hr, ?_⟩
      have has : (as.toList.map ρ).toArray = as.map ρ := by rw [← Array.toList_map]
      rw [has] at hrun
      simp only [if_true] at hrun
      simp [execOp, ho, resolve, invoke, builtin, hrun]
    · exact h.elim
  · rename_i as ts ho
    split at h
    · rename_i xs hx
      have hrel := lkAll_rel hl _ _ hx
      obtain ⟨r, z, hk, hr, hrun⟩ := maxMinK_sound (P := P) h hrel ts o.type
      refine ⟨r, z, hk, hr, ?_⟩
      have has : (as.toList.map ρ).toArray = as.map ρ := by rw [← Array.toList_map]
      rw [has] at hrun
      simp only [Bool.false_eq_true, if_false] at hrun
      simp [execOp, ho, resolve, invoke, builtin, hrun]
    · exact h.elim
  · exact h.elim
end
end Go.Proofs.Ytpakohboamfmjab.Pl
