/- Regions in the order of the text, with guards; code; functions. -/
import Derived.Test.YtpakohboamfmjabPlOp4
import Derived.Test.YtpakohboamfmjabPlSome
namespace Go.Proofs.Ytpakohboamfmjab.Pl
open Go.RowKit

/-! ### Guards -/
structure GE where
  gs : List (Nat × Bool)
  G : Prop
  v : AV

def eqG : List (Nat × Bool) → List (Nat × Bool) → Bool
  | [], [] => true
  | (t, true) :: r, (t', true) :: r' => Nat.beq t t' && eqG r r'
  | (t, false) :: r, (t', false) :: r' => Nat.beq t t' && eqG r r'
  | _, _ => false

def sfx (a : List (Nat × Bool)) : List (Nat × Bool) → Bool
  | [] => eqG a []
  | x :: r => eqG a (x :: r) || sfx a r

/-- What an operand reads as, where the guards gs hold. -/
def opd (ψ : List (Nat × GE)) (φ : List (Nat × AV)) (gs : List (Nat × Bool)) : Operand → Option AV
  | .tmp t => match look t ψ with
    | some e => bif sfx e.gs gs then some e.v else none
    | none => look t φ
  | .const v => constA v
  | .func f => some (.t (.fn f []))
  | .global _ => none

def guardOf (ops : Array Oper) (ψ : List (Nat × GE)) (φ : List (Nat × AV)) (j : Nat) (want : Bool) : Option (List (Nat × Bool) × Prop) :=
  match ops[j]? with
  | some oj => match oj.dst with
    | some g => match look g ψ with
      | some e => match e.v with
        | .t (.v (.bool b)) => some ((g, want) :: e.gs, e.G ∧ b = want)
        | _ => none
      | none => match look g φ with
        | some (.t (.v (.bool b))) => some ([(g, want)], b = want)
        | _ => none
    | none => none
  | none => none

def namesG (d : Nat) : List (Nat × Bool) → Bool
  | [] => false
  | (t, _) :: r => Nat.beq d t || namesG d r

def clashG (d : Nat) : List (Nat × GE) → Bool
  | [] => false
  | (t, e) :: r => Nat.beq t d || namesG d e.gs || clashG d r

def dropG (d : Nat) (ψ : List (Nat × GE)) : List (Nat × GE) := ψ.filter fun e => !(Nat.beq e.1 d || namesG d e.2.gs)

def isPick : Op → Option (Operand × Operand × Operand)
  | .pick c a b => some (c, a, b)
  | _ => none

def isConstB (want : Bool) : Operand → Bool
  | .const (.bool b) => bif want then b else !b
  | _ => false

/-- The value of a pick. -/
def pickV (lk : List (Nat × Bool) → Operand → Option AV) (gs : List (Nat × Bool)) (c a b : Operand) : Option Bool :=
  match c, lk gs c with
  | .tmp ct, some (.t (.v (.bool p))) =>
    bif isConstB false b then (match lk ((ct, true) :: gs) a with | some (.t (.v (.bool x))) => some (p && x) | _ => none)
    else bif isConstB true a then (match lk ((ct, false) :: gs) b with | some (.t (.v (.bool y))) => some (p || y) | _ => none)
    else match lk ((ct, true) :: gs) a, lk ((ct, false) :: gs) b with
      | some (.t (.v (.bool x))), some (.t (.v (.bool y))) => some (bif p then x else y)
      | _, _ => none
  | _, _ => none

/-- A call under a guard. -/
def callG (P : Program) (G : Prop) (s : St) (K : AV → Prop) (f : FuncId) (args : List AV) : Prop :=
  match mapO (borrow s.σ 8) args with
  | some xs => Ent P f ∧ ∃ r, (G → PC P f xs r) ∧ (bif r.plain then K (.t r) else bif (allT args).isSome then K (.t r) else False)
  | none => False

/-- An operation under a guard: it yields a value, nothing else. -/
def evG (T : TyTab) (P : Program) (G : Prop) (o : Oper) (lk : Operand → Option AV) (s : St) (K : AV → Prop) : Prop :=
  match o.op with
  | .call { callee := .value f, args := as, .. } => match lk f, lkAll lk as.toList with
    | some (.t (.fn g caps)), some vs => callG P G s K g (vs ++ caps.map .t)
    | some (.fn g caps), some vs => callG P G s K g (vs ++ caps)
    | _, _ => False
  | op => yieldK T lk s.σ (fun p => G → p) op K

/-- Does the operation leave memory as it is? -/
def quietOp : Op → Bool
  | .box .. | .alloc _ | .buildSlice .. | .makeSlice .. | .store .. | .call { callee := .builtin .append, .. } | .call { callee := .builtin .clear, .. } | .call { callee := .value _, .. } => false
  | _ => true

def evOps (T : TyTab) (P : Program) (own : List Nat) (N : Nat) (ops : Array Oper) : List Oper → List (Nat × GE) → St → (St → Prop) → Prop
  | [], _, s, Q => Q s
  | o :: os, ψ, s, Q =>
    match o.guard with
    | none => match isPick o.op with
      | some (c, a, b) => match pickV (opd ψ s.φ) [] c a b with
        | some x => match o.dst with
          | some d => bif Nat.blt d N then (bif clashG d ψ then evOps T P own N ops os [] ⟨(d, vb x) :: s.φ, s.σ⟩ Q else evOps T P own N ops os ψ ⟨(d, vb x) :: s.φ, s.σ⟩ Q) else False
          | none => False
        | none => False
      | none => bif quietOp o.op then yieldK T (opd ψ s.φ []) s.σ id o.op (fun v => match o.dst with
          | some d => bif Nat.blt d N then (bif clashG d ψ then evOps T P own N ops os [] ⟨(d, v) :: s.φ, s.σ⟩ Q else evOps T P own N ops os ψ ⟨(d, v) :: s.φ, s.σ⟩ Q) else False
          | none => False)
        else evOp T P own N o (opd ψ s.φ []) s (fun s' => evOps T P own N ops os [] s' Q)
    | some (j, want) => match guardOf ops ψ s.φ j want, o.dst with
      | some (gs, G), some d => bif Nat.blt d N && !namesG d gs && !clashG d ψ then (match isPick o.op with
        | some (c, a, b) => match pickV (opd ψ s.φ) gs c a b with
          | some x => evOps T P own N ops os ((d, ⟨gs, G, vb x⟩) :: ψ) ⟨(d, .junk) :: s.φ, s.σ⟩ Q
          | none => False
        | none => evG T P G o (opd ψ s.φ gs) s (fun v => evOps T P own N ops os ((d, ⟨gs, G, v⟩) :: ψ) ⟨(d, .junk) :: s.φ, s.σ⟩ Q)) else False
      | _, _ => False

/-! ### Soundness -/
def HoldsG (gs : List (Nat × Bool)) (a : Act) : Prop := ∀ p ∈ gs, a.tmps.getD p.1 undef = .bool p.2

section
variable {P : Program} {T : TyTab} {N : Nat} {B0 : Nat → Prop} {F0 : Nat → Prop} {w0 : World}

def Psi (ψ : List (Nat × GE)) (F : Nat → Prop) (m : Nat → Value) (kk : Nat → Nat) (a : Act) (w : World) : Prop :=
  ∀ t e, (t, e) ∈ ψ → (HoldsG e.gs a ∧ e.G ∧ e.v.rel w F m kk (a.tmps.getD t undef)) ∨ (¬ HoldsG e.gs a ∧ a.tmps.getD t undef = undef)

theorem look_mem {α : Type} {t : Nat} {v : α} : ∀ {l : List (Nat × α)}, look t l = some v → (t, v) ∈ l
  | [], h => by simp [look] at h
  | (k, x) :: r, h => by
    rw [look_cons] at h
    by_cases e : t = k
    · simp only [e, if_true, Option.some.injEq] at h; subst h; subst e; exact List.mem_cons_self ..
    · simp only [e, if_false] at h; exact List.mem_cons_of_mem _ (look_mem h)

theorem eqG_spec : ∀ {a b : List (Nat × Bool)}, eqG a b = true → a = b
  | [], [], _ => rfl
  | [], _ :: _, h => by simp [eqG] at h
  | (t, true) :: r, [], h => by simp [eqG] at h
  | (t, false) :: r, [], h => by simp [eqG] at h
  | (t, true) :: r, (t', true) :: r', h => by
    simp only [eqG, Bool.and_eq_true] at h
    rw [Nat.eq_of_beq_eq_true h.1, eqG_spec h.2]
  | (t, false) :: r, (t', false) :: r', h => by
    simp only [eqG, Bool.and_eq_true] at h
    rw [Nat.eq_of_beq_eq_true h.1, eqG_spec h.2]
  | (t, true) :: r, (t', false) :: r', h => by simp [eqG] at h
  | (t, false) :: r, (t', true) :: r', h => by simp [eqG] at h

theorem sfx_holds {a : Act} {x : List (Nat × Bool)} : ∀ {gs : List (Nat × Bool)}, sfx x gs = true → HoldsG gs a → HoldsG x a
  | [], h, hg => by rw [eqG_spec h]; exact hg
  | p :: r, h, hg => by
    simp only [sfx, Bool.or_eq_true] at h
    rcases h with h | h
    · rw [eqG_spec h]; exact hg
    · exact sfx_holds h (fun q hq => hg q (List.mem_cons_of_mem _ hq))

theorem constA_rel {w : World} {F : Nat → Prop} {m : Nat → Value} {kk : Nat → Nat} {v : Value} {x : AV} (h : constA v = some x) : x.rel w F m kk v := by
  unfold constA at h
  split at h
  · rename_i f first caps
    cases hb : Nat.beq first.size 0 && Nat.beq caps.size 0 with
    | false => rw [hb] at h; cases h
    | true =>
      rw [hb, cond_true] at h
      injection h with h; subst h
      simp only [Bool.and_eq_true] at hb
      have h1 := Array.eq_empty_of_size_eq_zero (Nat.eq_of_beq_eq_true hb.1)
      have h2 := Array.eq_empty_of_size_eq_zero (Nat.eq_of_beq_eq_true hb.2)
      subst h1; subst h2
      simp only [AV.rel, TV.rel]
      exact ⟨[], rfl, by simp [TV.relL]⟩
  · cases hs : scal v with
    | false => rw [hs] at h; cases h
    | true => rw [hs, cond_true] at h; injection h with h; subst h; exact rel_v hs

theorem opd_rel {s : St} {m : Nat → Value} {kk : Nat → Nat} {a : Act} {w : World} (S : Sim N B0 F0 w0 s m kk a w) {ψ : List (Nat × GE)} (hψ : Psi ψ (Fc F0 B0 s.σ m) m kk a w) {gs : List (Nat × Bool)} (hg : HoldsG gs a)
    (x : Operand) (v : AV) (h : opd ψ s.φ gs x = some v) : v.rel w (Fc F0 B0 s.σ m) m kk (a.eval x) := by
  cases x with
  | tmp t =>
    simp only [opd] at h
    split at h
    · rename_i e he
      cases hs : sfx e.gs gs with
      | false => rw [hs] at h; cases h
      | true =>
        rw [hs, cond_true] at h
        injection h with h; subst h
        rcases hψ t e (look_mem he) with ⟨_, _, h3⟩ | ⟨h3, _⟩
        · exact h3
        · exact absurd (sfx_holds hs hg) h3
    · exact S.fr t v h
  | const c => simp only [opd] at h; exact constA_rel h
  | func f =>
    simp only [opd, Option.some.injEq] at h; subst h
    simp only [AV.rel, TV.rel, Act.eval]
    exact ⟨[], rfl, by simp [TV.relL]⟩
  | global g => simp [opd] at h

theorem namesG_spec {d : Nat} : ∀ {gs : List (Nat × Bool)}, namesG d gs = false → ∀ p ∈ gs, p.1 ≠ d
  | [], _, p, h => by simp at h
  | (t, b) :: r, h, p, hp => by
    simp only [namesG, Bool.or_eq_false_iff] at h
    rcases List.mem_cons.1 hp with rfl | hp
    · intro e; rw [show t = d from e] at h; simp at h
    · exact namesG_spec h.2 p hp

theorem Psi.put {ψ : List (Nat × GE)} {F : Nat → Prop} {m : Nat → Value} {kk : Nat → Nat} {a : Act} {w : World} (h : Psi ψ F m kk a w) {d : Nat} (hd : d < a.tmps.size) (y : Value) : Psi (dropG d ψ) F m kk (a.put (some d) y) w := by
  intro t e hm
  unfold dropG at hm
  rw [List.mem_filter] at hm
  obtain ⟨hm, hq⟩ := hm
  simp only [Bool.not_eq_true', Bool.or_eq_false_iff] at hq
  have ht : t ≠ d := by intro e'; subst e'; simp at hq
  have hgs := namesG_spec hq.2
  have hH : HoldsG e.gs (a.put (some d) y) ↔ HoldsG e.gs a := by
    unfold HoldsG
    constructor
    · intro h p hp
      have := h p hp
      simp only [Act.put] at this
      rw [getD_set hd, if_neg (hgs p hp)] at this
      exact this
    · intro h p hp
      simp only [Act.put]
      rw [getD_set hd, if_neg (hgs p hp)]
      exact h p hp
  have hv : (a.put (some d) y).tmps.getD t undef = a.tmps.getD t undef := by
    simp only [Act.put]; rw [getD_set hd, if_neg ht]
  rw [hH, hv]
  exact h t e hm

theorem dropG_clash {d : Nat} : ∀ {ψ : List (Nat × GE)}, clashG d ψ = false → dropG d ψ = ψ
  | [], _ => rfl
  | (t, e) :: r, h => by
    simp only [clashG, Bool.or_eq_false_iff] at h
    unfold dropG
    rw [List.filter_cons]
    simp only [h.1.1, h.1.2, Bool.or_self, Bool.not_false, if_true]
    congr 1
    exact dropG_clash h.2

theorem Psi.put' {ψ : List (Nat × GE)} {F : Nat → Prop} {m : Nat → Value} {kk : Nat → Nat} {a : Act} {w : World} (h : Psi ψ F m kk a w) {d : Nat} (hd : d < a.tmps.size) (hc : clashG d ψ = false) (y : Value) : Psi ψ F m kk (a.put (some d) y) w := by
  have := h.put hd y
  rwa [dropG_clash hc] at this

theorem Psi.world {ψ : List (Nat × GE)} {F : Nat → Prop} {m : Nat → Value} {kk : Nat → Nat} {a : Act} {w w' : World} (h : Psi ψ F m kk a w) (hk : Keeps w F w' F) : Psi ψ F m kk a w' := by
  intro t e hm
  rcases h t e hm with ⟨h1, h2, h3⟩ | h1
  · exact .inl ⟨h1, h2, AV.rel_same hk _ _ h3⟩
  · exact .inr h1

theorem yielded_iff {ops : Array Oper} {tmps : Array Value} {j g : Nat} {oj : Oper} {want : Bool} (hj : ops[j]? = some oj) (hg : oj.dst = some g) : yielded ops tmps j = some want ↔ tmps.getD g undef = .bool want := by
  unfold yielded
  simp only [hj, Option.bind_some, hg, Array.getD_eq_getD_getElem?]
  cases h : tmps[g]? with
  | none => simp [undef]
  | some v => cases v <;> simp

theorem guard_spec {ops : Array Oper} {s : St} {m : Nat → Value} {kk : Nat → Nat} {a : Act} {w : World} (S : Sim N B0 F0 w0 s m kk a w) {ψ : List (Nat × GE)} (hψ : Psi ψ (Fc F0 B0 s.σ m) m kk a w) {o : Oper} {j : Nat} {want : Bool}
    (ho : o.guard = some (j, want)) {gs : List (Nat × Bool)} {G : Prop} (h : guardOf ops ψ s.φ j want = some (gs, G)) :
    (Region.wanted o (yielded ops a.tmps) = true → HoldsG gs a ∧ G) ∧ (Region.wanted o (yielded ops a.tmps) = false → ¬ HoldsG gs a) := by
  unfold guardOf at h
  split at h
  · rename_i oj hj
    split at h
    · rename_i g hg
      have hw : Region.wanted o (yielded ops a.tmps) = true ↔ a.tmps.getD g undef = .bool want := by
        unfold Region.wanted
        simp only [ho]
        rw [← yielded_iff hj hg]
        simp
      have hnw : Region.wanted o (yielded ops a.tmps) = false → a.tmps.getD g undef ≠ .bool want := fun h e => by rw [hw.2 e] at h; cases h
      split at h
      · rename_i e he
        split at h
        · rename_i b hb
          simp only [Option.some.injEq, Prod.mk.injEq] at h
          obtain ⟨rfl, rfl⟩ := h
          refine ⟨fun h => ?_, fun h hH => hnw h (hH (g, want) (List.mem_cons_self ..))⟩
          have hval := hw.1 h
          rcases hψ g e (look_mem he) with ⟨h1, h2, h3⟩ | ⟨_, h2⟩
          · rw [hb] at h3
            simp only [AV.rel, TV.rel] at h3
            rw [h3.1] at hval
            injection hval with hval
            refine ⟨?_, h2, hval⟩
            intro p hp
            rcases List.mem_cons.1 hp with rfl | hp
            · exact hw.1 h
            · exact h1 p hp
          · rw [h2] at hval; cases hval
        · cases h
      · split at h
        · rename_i b hb
          simp only [Option.some.injEq, Prod.mk.injEq] at h
          obtain ⟨rfl, rfl⟩ := h
          refine ⟨fun h => ?_, fun h hH => hnw h (hH (g, want) (List.mem_cons_self ..))⟩
          have hval := hw.1 h
          have h3 := S.fr g _ hb
          simp only [AV.rel, TV.rel] at h3
          rw [h3.1] at hval
          injection hval with hval
          refine ⟨?_, hval⟩
          intro p hp
          simp only [List.mem_singleton] at hp
          subst hp; exact hw.1 h
        · cases h
    · cases h
  · cases h

theorem isConstB_spec {want : Bool} {x : Operand} (h : isConstB want x = true) : x = .const (.bool want) := by
  unfold isConstB at h
  split at h
  · rename_i b; cases want <;> cases b <;> simp_all
  · cases h

theorem isPick_spec {op : Op} {c a b : Operand} (h : isPick op = some (c, a, b)) : op = .pick c a b := by
  unfold isPick at h
  split at h
  · simp only [Option.some.injEq, Prod.mk.injEq] at h; obtain ⟨rfl, rfl, rfl⟩ := h; rfl
  · cases h

theorem pick_run {s : St} {m : Nat → Value} {kk : Nat → Nat} {a : Act} {w : World} (S : Sim N B0 F0 w0 s m kk a w) {ψ : List (Nat × GE)} (hψ : Psi ψ (Fc F0 B0 s.σ m) m kk a w) {gs : List (Nat × Bool)} (hg : HoldsG gs a)
    {o : Oper} {c x y : Operand} (ho : o.op = .pick c x y) {r : Bool} (h : pickV (opd ψ s.φ) gs c x y = some r) : (execOp a.eval o).run P w = .ok (.value (.bool r)) w := by
  unfold pickV at h
  split at h
  · rename_i ct p hp
    have hc := opd_rel S hψ hg _ _ hp
    simp only [AV.rel, TV.rel] at hc
    have hc := hc.1
    have hgp : HoldsG ((ct, p) :: gs) a := by
      intro q hq
      rcases List.mem_cons.1 hq with rfl | hq
      · exact hc
      · exact hg q hq
    have key : ∀ {z : Operand} {v : Bool}, opd ψ s.φ ((ct, p) :: gs) z = some (.t (.v (.bool v))) → a.eval z = .bool v := by
      intro z v hz
      have := opd_rel S hψ hgp _ _ hz
      simp only [AV.rel, TV.rel] at this
      exact this.1
    have hrun : (execOp a.eval o).run P w = .ok (.value (if p then a.eval x else a.eval y)) w := by
      simp [execOp, ho, hc, asBool]
    rw [hrun]
    congr 2
    cases hb1 : isConstB false y with
    | true =>
      rw [hb1, cond_true] at h
      split at h
      · rename_i v hv
        injection h with h; subst h
        have hy := isConstB_spec hb1; subst hy
        cases p with
        | true => rw [key hv]; rfl
        | false => rfl
      · cases h
    | false =>
      rw [hb1, cond_false] at h
      cases hb2 : isConstB true x with
      | true =>
        rw [hb2, cond_true] at h
        split at h
        · rename_i v hv
          injection h with h; subst h
          have hx := isConstB_spec hb2; subst hx
          cases p with
          | true => rfl
          | false => rw [key hv]; rfl
        · cases h
      | false =>
        rw [hb2, cond_false] at h
        split at h
        · rename_i v u hv hu
          injection h with h; subst h
          cases p with
          | true => rw [key hv]; rfl
          | false => rw [key hu]; rfl
        · cases h
  · cases h

/-- What code comes to: an end of a kind, in a state of which Q holds. -/
def Post (N : Nat) (B0 : Nat → Prop) (F0 : Nat → Prop) (w0 : World) (Q : Exit → St → Prop) (e : Exit) (a : Act) (w : World) : Prop :=
  ∃ s m kk, Q e s ∧ Sim N B0 F0 w0 s m kk a w

theorem Sim.junk {s : St} {m : Nat → Value} {kk : Nat → Nat} {a : Act} {w : World} (S : Sim N B0 F0 w0 s m kk a w) {d : Nat} (hd : d < N) (y : Value) : Sim N B0 F0 w0 ⟨(d, .junk) :: s.φ, s.σ⟩ m kk (a.put (some d) y) w :=
  S.put hd (by simp only [AV.rel])

theorem mapO_allT {σ : List (Nat × AO)} {n : Nat} : ∀ {vs : List AV} {xs ys : List TV}, allT vs = some ys → mapO (borrow σ (n + 1)) vs = some xs → xs = ys
  | [], xs, ys, h, h' => by
    simp only [allT, mapO, Option.some.injEq] at h h'; rw [← h, ← h']
  | v :: vs, xs, ys, h, h' => by
    cases v <;> simp only [allT] at h <;> try (cases h; done)
    rename_i x
    split at h
    · rename_i zs hz
      injection h with h; subst h
      simp only [mapO, borrow] at h'
      split at h'
      · rename_i y ys' hy hys
        injection hy with hy; subst hy
        injection h' with h'; subst h'
        rw [mapO_allT hz hys]
      · cases h'
    · cases h

/-- What a guarded operation does, where its guard holds. -/
def Quiets (P : Program) (F : Nat → Prop) (m : Nat → Value) (kk : Nat → Nat) (o : Oper) (a : Act) (w : World) (K : AV → Prop) : Prop :=
  ∀ (next : Act → World → Prop) (Q : Exit → Act → World → Prop), (∀ v y w', K v → Below w.heap.size w w' → v.rel w' F m kk y → next (a.put o.dst y) w') → o.wp P a w next Q

theorem evG_sound (C : Ctx P T) {G : Prop} (hG : G) {o : Oper} {a : Act} {s : St} {m : Nat → Value} {kk : Nat → Nat} {w : World} {K : AV → Prop} (S : Sim N B0 F0 w0 s m kk a w) {lk : Operand → Option AV}
    (hl : ∀ x v, lk x = some v → v.rel w (Fc F0 B0 s.σ m) m kk (a.eval x)) (h : evG T P G o lk s K) : Quiets P (Fc F0 B0 s.σ m) m kk o a w K := by
  have hcall : ∀ {g : FuncId} {vs : List AV} {us : List Value}, AV.relL w (Fc F0 B0 s.σ m) m kk vs us → callG P G s K g vs → (execOp a.eval o).run P w = (callFunc g us.toArray).run P w → Quiets P (Fc F0 B0 s.σ m) m kk o a w K := by
    intro g vs us hr h hrun
    have hsz := S.newB
    unfold callG at h
    split at h
    · rename_i xs hxs
      obtain ⟨hent, r, hpc, h⟩ := h
      have hpc := hpc hG
      intro next Q hn
      unfold Oper.wp
      rw [hrun, hent, Oper.upon_enter]
      cases hp : r.plain with
      | true =>
        rw [hp, cond_true] at h
        have hxr := mapO_sound (ls := vs.flatMap (reach s.σ 8)) (borrow_sound S.toHeap (seal_sub (vs.flatMap (reach s.σ 8)) s) 8) _ _ _ hxs (fun l h => mem_spec.2 h) hr
        have hxr' : TV.relL w (fun b => Fc F0 B0 (s.frz (vs.flatMap (reach s.σ 8))).σ m b ∧ b < w.heap.size) xs us := TV.relL_keep (fun b hb hlt => ⟨⟨hb, hlt⟩, rfl⟩) _ _ hxr
        refine (hpc w _ us (fun b hb => hb.2) hxr').mono ?_
        rintro e w' ⟨v, rfl, hbel, hv⟩
        exact hn _ _ _ h hbel (by simp only [AV.rel]; exact plain_rel hp hv)
      | false =>
        rw [hp, cond_false] at h
        cases hall : (allT vs).isSome with
        | false => rw [hall] at h; exact h.elim
        | true =>
          rw [hall, cond_true] at h
          obtain ⟨ys, hys⟩ := Option.isSome_iff_exists.1 hall
          have := mapO_allT (n := 7) hys hxs
          subst this
          have hxr := relL_allT hr hys
          have hxr' : TV.relL w (fun b => Fc F0 B0 s.σ m b ∧ b < w.heap.size) xs us := TV.relL_keep (fun b hb hlt => ⟨⟨hb, hlt⟩, rfl⟩) _ _ hxr
          refine (hpc w _ us (fun b hb => hb.2) hxr').mono ?_
          rintro e w' ⟨v, rfl, hbel, hv⟩
          refine hn _ _ _ h hbel ?_
          simp only [AV.rel]
          refine TV.rel_keep (keeps_mono ?_) _ _ hv
          rintro b (hb | hb)
          · exact hb.1
          · exact ⟨.inr (hsz _ hb), fun l o' hl' e' => by have := (AO.blk_lt (S.ob l o' hl') e').2; omega⟩
    · exact h.elim
  unfold evG at h
  split at h
  · rename_i f as ts ho
    split at h
    · rename_i g caps vs hf hvs
      have hfr := hl f _ hf
      simp only [AV.rel, TV.rel] at hfr
      obtain ⟨us, hfe, hcr⟩ := hfr
      refine hcall (AV.relL_append (lkAll_rel hl _ _ hvs) (relL_map.1 hcr)) h ?_
      simp only [execOp, ho, resolve, hfe, Deferred.ofValue, Sem.run_bind, Sem.run_pure, Result.andThen_ok, invoke]
      congr 2
      simp
    · rename_i g caps vs hf hvs
      have hfr := hl f _ hf
      simp only [AV.rel] at hfr
      obtain ⟨us, hfe, hcr⟩ := hfr
      refine hcall (AV.relL_append (lkAll_rel hl _ _ hvs) hcr) h ?_
      simp only [execOp, ho, resolve, hfe, Deferred.ofValue, Sem.run_bind, Sem.run_pure, Result.andThen_ok, invoke]
      congr 2
      simp
    · exact h.elim
  · obtain ⟨r, z, hk, hrel, hrun⟩ := yieldK_sound C S.toHeap hl (W := fun p => G → p) (fun _ h => h hG) h
    intro next Q hn
    unfold Oper.wp
    rw [hrun, Oper.upon_value]
    exact hn _ _ _ hk (Below.refl _ _) hrel

theorem evG_some {G : Prop} {o : Oper} {s : St} {K : AV → Prop} {lk : Operand → Option AV} (h : evG T P G o lk s K) : ∃ v, K v := by
  have hc : ∀ {f : FuncId} {vs : List AV}, callG P G s K f vs → ∃ v, K v := by
    intro f vs h
    unfold callG at h
    simp only [Bool.cond_eq_ite] at h
    split at h
    · obtain ⟨_, r, _, h⟩ := h
      (repeat' split at h) <;> first | exact ⟨_, h⟩ | exact h.elim
    · exact h.elim
  unfold evG at h
  split at h
  · split at h
    · exact hc h
    · exact hc h
    · exact h.elim
  · exact yieldK_some h

theorem psi_nil {F : Nat → Prop} {m : Nat → Value} {kk : Nat → Nat} {a : Act} {w : World} : Psi [] F m kk a w := fun t e h => by simp at h

theorem evOps_sound (C : Ctx P T) {own : List Nat} {ops : Array Oper} {Q : Exit → St → Prop} : ∀ (l : List Oper) (ψ : List (Nat × GE)) (s : St) (m : Nat → Value) (kk : Nat → Nat) (a : Act) (w : World),
    Sim N B0 F0 w0 s m kk a w → Psi ψ (Fc F0 B0 s.σ m) m kk a w → evOps T P own N ops l ψ s (Q .normal) → wpList P ops (Post N B0 F0 w0 Q) l a w
  | [], ψ, s, m, kk, a, w, S, hψ, h => by
    simp only [evOps] at h
    exact wpList_nil ⟨s, m, kk, h, S⟩
  | o :: os, ψ, s, m, kk, a, w, S, hψ, h => by
    have hnil : HoldsG [] a := fun p hp => by simp at hp
    simp only [evOps] at h
    refine wpList_step fun K hK => ?_
    split at h
    · rename_i hgd
      rw [if_pos (by simp [Region.wanted, hgd])]
      split at h
      · rename_i c x y hpk
        split at h
        · rename_i r hr
          split at h
          · rename_i d hd
            cases hlt : Nat.blt d N with
            | false => rw [hlt] at h; exact h.elim
            | true =>
              rw [hlt, cond_true] at h
              have hlt := Nat.le_of_ble_eq_true hlt
              unfold Oper.wp
              rw [pick_run S hψ hnil (isPick_spec hpk) hr, Oper.upon_value, hd]
              cases hcl : clashG d ψ with
              | true => rw [hcl, cond_true] at h; exact hK _ _ (evOps_sound C os _ _ m kk _ w (S.put hlt rel_vb) psi_nil h)
              | false => rw [hcl, cond_false] at h; exact hK _ _ (evOps_sound C os _ _ m kk _ w (S.put hlt rel_vb) (hψ.put' (by rw [S.sz]; exact hlt) hcl _) h)
          · exact h.elim
        · exact h.elim
      · cases hq : quietOp o.op with
        | true =>
          rw [hq, cond_true] at h
          obtain ⟨r, z, hk, hrel, hrun⟩ := yieldK_sound C S.toHeap (opd_rel S hψ hnil) (W := id) (fun _ h => h) h
          split at hk
          · rename_i d hd
            cases hlt : Nat.blt d N with
            | false => rw [hlt] at hk; exact hk.elim
            | true =>
              rw [hlt, cond_true] at hk
              have hlt := Nat.le_of_ble_eq_true hlt
              unfold Oper.wp
              rw [hrun, Oper.upon_value, hd]
              cases hcl : clashG d ψ with
              | true => rw [hcl, cond_true] at hk; exact hK _ _ (evOps_sound C os _ _ m kk _ w (S.put hlt hrel) psi_nil hk)
              | false => rw [hcl, cond_false] at hk; exact hK _ _ (evOps_sound C os _ _ m kk _ w (S.put hlt hrel) (hψ.put' (by rw [S.sz]; exact hlt) hcl _) hk)
          · exact hk.elim
        | false =>
          rw [hq, cond_false] at h
          exact evOp_sound C S (opd_rel S hψ hnil) h K _ (fun a' w' s' m' kk' hs S' => hK _ _ (evOps_sound C os [] s' m' kk' a' w' S' psi_nil hs))
    · rename_i j want hgd
      split at h
      · rename_i gs G d hgo hd
        cases hb : Nat.blt d N && !namesG d gs && !clashG d ψ with
        | false => rw [hb] at h; exact h.elim
        | true =>
          rw [hb, cond_true] at h
          simp only [Bool.and_eq_true] at hb
          have hlt := Nat.le_of_ble_eq_true hb.1.1
          have hng : namesG d gs = false := by simpa using hb.1.2
          have hcl : clashG d ψ = false := by simpa using hb.2
          have hnames := namesG_spec hng
          obtain ⟨hw1, hw2⟩ := guard_spec S hψ hgd hgo
          have hgput : ∀ y, HoldsG gs (a.put (some d) y) ↔ HoldsG gs a := by
            intro y
            unfold HoldsG
            constructor
            · intro h p hp
              have := h p hp
              simp only [Act.put] at this
              rw [getD_set (by rw [S.sz]; exact hlt), if_neg (hnames p hp)] at this
              exact this
            · intro h p hp
              simp only [Act.put]
              rw [getD_set (by rw [S.sz]; exact hlt), if_neg (hnames p hp)]
              exact h p hp
          have hat : ∀ y, (a.put (some d) y).tmps.getD d undef = y := by
            intro y
            simp only [Act.put]
            rw [getD_set (by rw [S.sz]; exact hlt), if_pos rfl]
          have skip : ∀ (v : AV), Region.wanted o (yielded ops a.tmps) = false → Psi ((d, ⟨gs, G, v⟩) :: ψ) (Fc F0 B0 s.σ m) m kk (a.put (some d) undef) w := by
            intro v hnw t e hm
            rcases List.mem_cons.1 hm with hm | hm
            · injection hm with h1 h2
              subst h1; subst h2
              exact .inr ⟨fun hh => hw2 hnw ((hgput _).1 hh), hat _⟩
            · exact hψ.put' (by rw [S.sz]; exact hlt) hcl undef t e hm
          have take : ∀ (v : AV) (y : Value) (w' : World), Region.wanted o (yielded ops a.tmps) = true → Below w.heap.size w w' → v.rel w' (Fc F0 B0 s.σ m) m kk y →
              Psi ((d, ⟨gs, G, v⟩) :: ψ) (Fc F0 B0 s.σ m) m kk (a.put (some d) y) w' := by
            intro v y w' hw hbel hv t e hm
            obtain ⟨h1, h2⟩ := hw1 hw
            rcases List.mem_cons.1 hm with hm | hm
            · injection hm with h3 h4
              subst h3; subst h4
              exact .inl ⟨(hgput _).2 h1, h2, by rw [hat]; exact hv⟩
            · exact ((hψ.world (Keeps.below hbel (Nat.le_refl _) (fun _ h _ => h))).put' (by rw [S.sz]; exact hlt) hcl y) t e hm
          split at h
          · rename_i c x y hpk
            split at h
            · rename_i r hr
              split
              · rename_i hw
                unfold Oper.wp
                rw [pick_run S hψ (hw1 hw).1 (isPick_spec hpk) hr, Oper.upon_value, hd]
                exact hK _ _ (evOps_sound C os _ _ m kk _ w (S.junk hlt _) (take _ _ _ hw (Below.refl _ _) rel_vb) h)
              · rename_i hw
                rw [hd]
                exact hK _ _ (evOps_sound C os _ _ m kk _ w (S.junk hlt _) (skip _ (by simpa using hw)) h)
            · exact h.elim
          · split
            · rename_i hw
              refine evG_sound C (hw1 hw).2 S (opd_rel S hψ (hw1 hw).1) h K _ ?_
              intro v y w' hv hbel hrel
              rw [hd]
              exact hK _ _ (evOps_sound C os _ _ m kk _ w' ((S.grow hbel).junk hlt _) (take v y w' hw hbel hrel) hv)
            · rename_i hw
              rw [hd]
              -- the operation is passed over: whatever value it is said to have
              obtain ⟨v, hv⟩ := evG_some h
              exact hK _ _ (evOps_sound C os _ _ m kk _ w (S.junk hlt _) (skip v (by simpa using hw)) hv)
      · exact h.elim
end
end Go.Proofs.Ytpakohboamfmjab.Pl
