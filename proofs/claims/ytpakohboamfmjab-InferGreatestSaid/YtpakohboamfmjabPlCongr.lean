/- An operation looks at its operands alone. -/
import Derived.Test.YtpakohboamfmjabPlMono
namespace Go.Proofs.Ytpakohboamfmjab.Pl
theorem lkAll_congr {lk lk' : Operand → Option AV} : ∀ {xs : List Operand}, (∀ x ∈ xs, lk x = lk' x) → lkAll lk xs = lkAll lk' xs
  | [], _ => rfl
  | x :: xs, h => by
    simp only [lkAll]
    rw [h x (List.mem_cons_self ..), lkAll_congr (fun y hy => h y (List.mem_cons_of_mem _ hy))]
theorem fillK_congr {fs : List (Nat × TypeId)} {T : TyTab} {lk lk' : Operand → Option AV} : ∀ {ps : List (Nat × Operand)} {cs : List AV}, (∀ p ∈ ps, lk p.2 = lk' p.2) → fillK fs T lk ps cs = fillK fs T lk' ps cs
  | [], _, _ => rfl
  | (i, x) :: ps, cs, h => by
    simp only [fillK]
    rw [h (i, x) (List.mem_cons_self ..)]
    have ih : ∀ cs, fillK fs T lk ps cs = fillK fs T lk' ps cs := fun cs => fillK_congr (fun p hp => h p (List.mem_cons_of_mem _ hp))
    simp only [ih]
theorem endsOf_congr {lk lk' : Operand → Option AV} {n : Nat} {lo hi : Option Operand} (h1 : ∀ x, lo = some x → lk x = lk' x) (h2 : ∀ x, hi = some x → lk x = lk' x) : endsOf lk n lo hi = endsOf lk' n lo hi := by
  unfold endsOf
  cases lo with
  | none => cases hi with
    | none => rfl
    | some y => simp only [h2 y rfl]
  | some x => cases hi with
    | none => simp only [h1 x rfl]
    | some y => simp only [h1 x rfl, h2 y rfl]
theorem yieldK_congr {T : TyTab} {lk lk' : Operand → Option AV} {σ : List (Nat × AO)} {W : Prop → Prop} {op : Op} {K : AV → Prop} (h : ∀ x ∈ op.operands, lk x = lk' x) (hy : yieldK T lk σ W op K) : yieldK T lk' σ W op K := by
  have key : yieldK T lk σ W op K = yieldK T lk' σ W op K := by
    cases op <;> try rfl
    case move x => simp only [yieldK, h x (by simp [Op.operands])]
    case assign x => simp only [yieldK, h x (by simp [Op.operands])]
    case load t a => simp only [yieldK, h a (by simp [Op.operands])]
    case fieldAddr s x f => simp only [yieldK, h x (by simp [Op.operands])]
    case field s x f => simp only [yieldK, h x (by simp [Op.operands])]
    case indexAddr t x i => simp only [yieldK, h x (by simp [Op.operands]), h i (by simp [Op.operands])]
    case index t x i => simp only [yieldK, h x (by simp [Op.operands]), h i (by simp [Op.operands])]
    case binOp o t x y _ => simp only [yieldK, h x (by simp [Op.operands]), h y (by simp [Op.operands])]
    case unOp o t x => simp only [yieldK, h x (by simp [Op.operands])]
    case convert s d x => simp only [yieldK, h x (by simp [Op.operands])]
    case extract x i => simp only [yieldK, h x (by simp [Op.operands])]
    case nilCheck x => simp only [yieldK, h x (by simp [Op.operands])]
    case makeInterface t x => simp only [yieldK, h x (by simp [Op.operands])]
    case build t ps =>
      simp only [yieldK, buildK]
      have : ∀ fs cs, fillK fs T lk ps.toList cs = fillK fs T lk' ps.toList cs := fun fs cs => fillK_congr (fun p hp => h p.2 (by simp only [Op.operands, List.mem_toArray, List.mem_map]; exact ⟨p, hp, rfl⟩))
      simp only [this]
    case makeFunc fn first caps =>
      cases fn <;> try rfl
      simp only [yieldK]
      rw [lkAll_congr (lk' := lk') (fun x hx => h x (by simp only [Op.operands, Array.mem_append]; exact .inr (Array.mem_toList_iff.1 hx)))]
    case slice t x lo hi mx =>
      simp only [yieldK, h x (by simp [Op.operands])]
      have h1 : ∀ n, endsOf lk n lo hi = endsOf lk' n lo hi := fun n => endsOf_congr (fun y hy => h y (by simp [Op.operands, hy])) (fun y hy => h y (by simp [Op.operands, hy]))
      simp only [sliceK, h1]
    case call c =>
      obtain ⟨callee, as, ts⟩ := c
      have hall : lkAll lk as.toList = lkAll lk' as.toList := lkAll_congr (fun x hx => h x (by simp only [Op.operands, Call.operands, Array.mem_append]; exact .inr (Array.mem_toList_iff.1 hx)))
      cases callee <;> try rfl
      rename_i b
      cases b <;> try rfl
      all_goals simp only [yieldK, hall]
  rw [← key]; exact hy
theorem evG_congr {T : TyTab} {P : Program} {G : Prop} {o : Oper} {lk lk' : Operand → Option AV} {s : St} {K : AV → Prop} (h : ∀ x ∈ o.op.operands, lk x = lk' x) (hy : evG T P G o lk s K) : evG T P G o lk' s K := by
  unfold evG at hy ⊢
  split at hy
  · rename_i f as ts ho
    have hf := h f (by rw [ho]; simp [Op.operands, Call.operands])
    have hall : lkAll lk as.toList = lkAll lk' as.toList := lkAll_congr (fun x hx => h x (by rw [ho]; simp only [Op.operands, Call.operands, Array.mem_append]; exact .inr (Array.mem_toList_iff.1 hx)))
    rw [← hf, ← hall]
    exact hy
  · exact yieldK_congr h hy
end Go.Proofs.Ytpakohboamfmjab.Pl
