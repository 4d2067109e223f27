/- What an operation does to a state. -/
import Derived.Test.YtpakohboamfmjabPlSeal
namespace Go.Proofs.Ytpakohboamfmjab.Pl
open Go.RowKit

/-- A call of the function is a call of its text. -/
def Ent (P : Program) (f : FuncId) : Prop := ∀ (args : Array Value) (w : World), (callFunc f args).run P w = .ok (.enter f args) w

def cellsT : TV → Option (List TV)
  | .agg xs => some xs
  | .tup _ => none
  | x => some [x]

def seqFrom (n : Nat) : List (Nat × Operand) → Bool
  | [] => true
  | (i, _) :: r => Nat.beq i n && seqFrom (n + 1) r

def allLen (k : Nat) : List (List TV) → Bool
  | [] => true
  | e :: r => Nat.beq e.length k && allLen k r

/-- The elements that are appended. -/
def elemsOf (σ : List (Nat × AO)) : AV → Option (List (List TV))
  | .t (.sl _ es) => some es
  | .t (.v (.slice none 0 0)) => some []
  | .sl l => match look l σ with | some (.row _ _ es) => some es | _ => none
  | _ => none

def kOf (σ : List (Nat × AO)) : AV → Option Nat
  | .t (.sl k _) => some k
  | .t (.v (.slice none 0 0)) => some 0
  | .sl l => match look l σ with | some (.row _ k _) => some k | _ => none
  | _ => none

def bindK (N : Nat) (d : Option Tmp) (s : St) (K : St → Prop) (v : AV) : Prop :=
  match d with
  | some d => bif Nat.blt d N then K ⟨(d, v) :: s.φ, s.σ⟩ else False
  | none => False

def layK (N : Nat) (d : Option Tmp) (s : St) (K : St → Prop) (o : AO) (v : Nat → AV) : Prop :=
  match d with
  | some d => bif Nat.blt d N then killK d s.φ s.σ (fun φ' σ' => K ⟨(d, v d) :: φ', (d, o) :: σ'⟩) else False
  | none => False

def appendK (T : TyTab) (N : Nat) (d : Option Tmp) (t t' : TypeId) (s : St) (K : St → Prop) (b x : AV) : Prop :=
  bif Nat.beq t t' then (match T t with
    | some { d := .slice e, .. } => match T e, elemsOf s.σ x, kOf s.σ x with
      | some ei, some news, some kx => bif (Nat.beq kx ei.size || Nat.beq kx 0) && Nat.blt 0 ei.size then (match b with
        | .t (.v (.slice none 0 0)) => news.length * ei.bytes ≤ 140737488355328 ∧ news.length ≤ maxLen ∧ layK N d s K (.row e ei.size news) .sl
        | .sl l => match look l s.σ with
          | some (.row e' k es) => bif Nat.beq e e' && Nat.beq k ei.size then
              (es.length + news.length) * ei.bytes ≤ 140737488355328 ∧ es.length + news.length ≤ maxLen ∧ killK l s.φ s.σ (fun φ' σ' => bindK N d ⟨φ', (l, .row e k (es ++ news)) :: σ'⟩ K (.sl l))
            else False
          | _ => False
        | _ => False) else False
      | _, _, _ => False
    | _ => False) else False

/-- A call that is given a row of one's own, and hands one back. -/
def icallK (P : Program) (N : Nat) (d : Option Tmp) (s : St) (K : St → Prop) (f : FuncId) (l : Nat) (rest : List AV) : Prop :=
  freezeK s rest fun xs s' => Ent P f ∧ match look l s'.σ with
    | some (.row e k es) => ∃ es', IC P f e k es xs es' ∧
        (((∀ c ∈ es', ∀ x ∈ c, x.plain = true) ∧ killK l s.φ s.σ (fun φ' σ' => bindK N d ⟨φ', (l, .row e k es') :: σ'⟩ K (.sl l))) ∨
          killK l s'.φ s'.σ (fun φ' σ' => bindK N d ⟨φ', (l, .row e k es') :: σ'⟩ K (.sl l)))
    | _ => False

def callK0 (P : Program) (N : Nat) (d : Option Tmp) (s : St) (K : St → Prop) (f : FuncId) (args : List AV) : Prop :=
  freezeK s args fun xs s' => Ent P f ∧ ((∃ r, PC P f xs r ∧ (bif r.plain then bindK N d s K (.t r) else bindK N d s' K (.t r))) ∨
      (∃ e k es, OC P f xs e k es ∧ layK N d s' K (.row e k es) .sl))

def callK (P : Program) (N : Nat) (d : Option Tmp) (s : St) (K : St → Prop) (f : FuncId) (args : List AV) : Prop :=
  match args with
  | .sl l :: rest => callK0 P N d s K f (.sl l :: rest) ∨ icallK P N d s K f l rest
  | args => callK0 P N d s K f args

def storeK (ti : TI) (s : St) (K : St → Prop) (p v : AV) : Prop :=
  match p with
  | .ptr l off => match look l s.σ, cellsOf v with
    | some (.var cs), some new => bif Nat.beq new.length ti.size && Nat.ble (off + new.length) cs.length then K ⟨s.φ, (l, .var (putAt off new cs)) :: s.σ⟩ else False
    | _, _ => False
  | .rp l i j => freezeK s [v] fun xs s' => match xs with
    | [x] => match look l s'.σ, cellsT x with
      | some (.row e k es), some new => ∃ c, es[i]? = some c ∧ (bif Nat.beq new.length ti.size && Nat.ble (j + new.length) k then
          K ⟨s'.φ, (l, .row e k (es.set i (c.take j ++ new ++ c.drop (j + new.length)))) :: s'.σ⟩ else False)
      | _, _ => False
    | _ => False
  | _ => False

def buildSliceK (T : TyTab) (own : List Nat) (N : Nat) (d : Option Tmp) (t : TypeId) (n : Nat) (parts : List (Nat × Operand)) (lk : Operand → Option AV) (s : St) (K : St → Prop) : Prop :=
  match T t with
  | some { d := .slice e, .. } => match T e, lkAll lk (parts.map (·.2)) with
    | some ei, some vs => freezeK s vs fun xs s' => match mapO cellsT xs with
        | some es => bif seqFrom 0 parts && Nat.beq parts.length n && allLen ei.size es && Nat.ble (n * ei.size) 16777216 && Nat.blt 0 ei.size then
            (match d with
            | some d' => bif mem d' own then layK N d s' K (.row e ei.size es) .sl else bindK N d s' K (.t (.sl ei.size es))
            | none => False) else False
        | none => False
    | _, _ => False
  | _ => False

/-- A call with trees alone. -/
def callT (P : Program) (N : Nat) (d : Option Tmp) (s : St) (K : St → Prop) (f : FuncId) (xs : List TV) : Prop :=
  Ent P f ∧ ((∃ r, PC P f xs r ∧ bindK N d s K (.t r)) ∨ (∃ e k es, OC P f xs e k es ∧ layK N d s K (.row e k es) .sl))

def callF (P : Program) (N : Nat) (d : Option Tmp) (s : St) (K : St → Prop) (f : FuncId) (vs : List AV) (caps : List TV) : Prop :=
  match allT vs with
  | some xs => callT P N d s K f (xs ++ caps)
  | none => callK P N d s K f (vs ++ caps.map .t)

/-- 'clear' of a part of a row of one's own. -/
def clearK (T : TyTab) (s : St) (K : St → Prop) (t : TypeId) (x : AV) : Prop :=
  match T t, x with
  | some { d := .slice e, .. }, .sb l i n => match look l s.σ, T e with
    | some (.row e' k es), some ei => bif Nat.beq ei.size k then K ⟨s.φ, (l, .row e' k (es.take i ++ List.replicate n ei.zero ++ es.drop (i + n))) :: s.σ⟩ else False
    | _, _ => False
  | _, _ => False

/-- 'make' of a slice. -/
def makeSliceK (T : TyTab) (N : Nat) (d : Option Tmp) (t : TypeId) (s : St) (K : St → Prop) (a b : AV) : Prop :=
  match T t, a, b with
  | some { d := .slice e, .. }, .t (.v (.int .i64 n)), .t (.v (.int .i64 c)) => match T e with
    | some ei => bif Nat.blt 0 ei.size then 0 ≤ n ∧ n ≤ c ∧ c < 9223372036854775808 ∧ c.toNat * ei.bytes ≤ 140737488355328 ∧ layK N d s K (.row e ei.size (List.replicate n.toNat ei.zero)) .sl else False
    | none => False
  | _, _, _ => False

/-- An operation without a guard. -/
def evOp (T : TyTab) (P : Program) (own : List Nat) (N : Nat) (o : Oper) (lk : Operand → Option AV) (s : St) (K : St → Prop) : Prop :=
  match o.op with
  | .box t x => match T t, lk x with
    | some ti, some v => match cellsOf v with
      | some cs => bif Nat.beq cs.length ti.size then (match o.dst with
        | some d => layK N o.dst s K (.var (cs.map (AV.kill d))) (.ptr · 0)
        | none => False) else False
      | none => False
    | _, _ => False
  | .alloc t => match T t with
    | some ti => layK N o.dst s K (.var (ti.zero.map .t)) (.ptr · 0)
    | none => False
  | .buildSlice t n parts => buildSliceK T own N o.dst t n parts.toList lk s K
  | .makeSlice t n c => match lk n, lk c with
    | some a, some b => makeSliceK T N o.dst t s K a b
    | _, _ => False
  | .store t p x => match T t, lk p, lk x, o.dst with
    | some ti, some a, some v, none => storeK ti s K a v
    | _, _, _, _ => False
  | .call { callee := .builtin .append, args := as, argTypes := ts } => match lkAll lk as.toList, ts.toList with
    | some [b, x], [t, t'] => appendK T N o.dst t t' s K b x
    | _, _ => False
  | .call { callee := .builtin .clear, args := as, argTypes := ts } => match lkAll lk as.toList, ts.toList, o.dst with
    | some [x], [t], none => clearK T s K t x
    | _, _, _ => False
  | .call { callee := .value f, args := as, .. } => match lk f, lkAll lk as.toList with
    | some (.t (.fn g caps)), some vs => callF P N o.dst s K g vs caps
    | some (.fn g caps), some vs => callK P N o.dst s K g (vs ++ caps)
    | _, _ => False
  | op => yieldK T lk s.σ id op (bindK N o.dst s K)

/-! ### Soundness -/
section
variable {P : Program} {T : TyTab} {w : World} {N : Nat} {B0 : Nat → Prop} {F0 : Nat → Prop} {w0 : World} {m : Nat → Value} {kk : Nat → Nat}

/-- What is shown of an operation: it goes on in a state of which K holds. -/
def Goes (P : Program) (N : Nat) (B0 : Nat → Prop) (F0 : Nat → Prop) (w0 : World) (o : Oper) (a : Act) (w : World) (K : St → Prop) : Prop :=
  ∀ (next : Act → World → Prop) (Q : Exit → Act → World → Prop), (∀ a' w' s' m' kk', K s' → Sim N B0 F0 w0 s' m' kk' a' w' → next a' w') → o.wp P a w next Q

theorem getD_set {tmps : Array Value} {d t : Nat} {y : Value} (hd : d < tmps.size) : (tmps.setIfInBounds d y).getD t undef = if t = d then y else tmps.getD t undef := by
  simp only [Array.getD_eq_getD_getElem?, Array.getElem?_setIfInBounds]
  by_cases h : t = d
  · subst h; simp [hd]
  · have : ¬ d = t := fun e => h e.symm
    simp [h, this]

theorem Sim.put {s : St} {a : Act} (S : Sim N B0 F0 w0 s m kk a w) {d : Nat} (hd : d < N) {v : AV} {y : Value} (hv : v.rel w (Fc F0 B0 s.σ m) m kk y) :
    Sim N B0 F0 w0 ⟨(d, v) :: s.φ, s.σ⟩ m kk (a.put (some d) y) w := by
  refine ⟨S.toHeap, ?_, S.df, by simp [Act.put, S.sz]⟩
  intro t u hu
  simp only [Act.put]
  rw [getD_set (by rw [S.sz]; exact hd)]
  rw [look_cons] at hu
  by_cases h : t = d
  · simp only [h, if_true, Option.some.injEq] at hu ⊢; subst hu; exact hv
  · simp only [h, if_false] at hu ⊢; exact S.fr t u hu

theorem goes_value {o : Oper} {a : Act} {K : St → Prop} {v : AV} {y : Value} {w' : World} {s' : St} (h : bindK N o.dst s' K v) (S : Sim N B0 F0 w0 s' m kk a w') (hv : v.rel w' (Fc F0 B0 s'.σ m) m kk y)
    (hrun : (execOp a.eval o).run P w = .ok (.value y) w') : Goes P N B0 F0 w0 o a w K := by
  intro next Q hn
  unfold Oper.wp
  rw [hrun, Oper.upon_value]
  unfold bindK at h
  split at h
  · rename_i d hd
    cases hb : Nat.blt d N with
    | false => simp [hb] at h
    | true =>
      simp only [hb, cond_true] at h
      have hlt : d < N := Nat.le_of_ble_eq_true hb
      rw [hd]
      exact hn _ _ _ _ _ h (S.put hlt hv)
  · exact h.elim

/-- A new object, behind a Heap.lay. -/
theorem goes_lay {o : Oper} {a : Act} {s : St} {K : St → Prop} {ob : AO} {v : Nat → AV} {y : Value} {w' : World} {k : Nat} {x : Value} (h : layK N o.dst s K ob v) (S : Sim N B0 F0 w0 s m kk a w)
    (hrun : (execOp a.eval o).run P w = .ok (.value y) w')
    (hH : ∀ d, o.dst = some d → Heap B0 F0 w0 ((d, ob) :: killS d s.σ) (upd m d x) (upd kk d k) w' ∧ Keeps w (Fc F0 B0 s.σ m) w' (Fc F0 B0 ((d, ob) :: killS d s.σ) (upd m d x)))
    (hv : ∀ d, o.dst = some d → (v d).rel w' (Fc F0 B0 ((d, ob) :: killS d s.σ) (upd m d x)) (upd m d x) (upd kk d k) y) : Goes P N B0 F0 w0 o a w K := by
  intro next Q hn
  unfold Oper.wp
  rw [hrun, Oper.upon_value]
  unfold layK at h
  split at h
  · rename_i d hd
    cases hb : Nat.blt d N with
    | false => simp [hb] at h
    | true =>
      simp only [hb, cond_true, killK_eq] at h
      have hlt : d < N := Nat.le_of_ble_eq_true hb
      obtain ⟨H', hk⟩ := hH d hd
      have S' : Sim N B0 F0 w0 ⟨killF d s.φ, (d, ob) :: killS d s.σ⟩ (upd m d x) (upd kk d k) a w' := by
        refine ⟨H', ?_, S.df, S.sz⟩
        intro t u hu
        simp only [look_killF] at hu
        cases hq : look t s.φ with
        | none => simp [hq] at hu
        | some u' =>
          simp only [hq, Option.map_some, Option.some.injEq] at hu
          subst hu
          exact AV.rel_kill hk (fun l' h => ⟨upd_ne _ _ h, upd_ne _ _ h⟩) (S.fr t u' hq)
      rw [hd]
      exact hn _ _ _ _ _ h (S'.put hlt (hv d hd))
  · exact h.elim

theorem heap_new {s : St} {a : Act} (S : Sim N B0 F0 w0 s m kk a w) (l : Nat) (cs : List AV) (us : List Value) (t : TypeId) (hr : AV.relL w (Fc F0 B0 s.σ m) m kk cs us) (h1 : OneAll us) :
    Heap B0 F0 w0 ((l, .var (cs.map (AV.kill l))) :: killS l s.σ) (upd m l (.pointer (some ⟨w.heap.size, 0, none⟩))) (upd kk l 0) (w.alloc (.cells us.toArray t)) ∧
      Keeps w (Fc F0 B0 s.σ m) (w.alloc (.cells us.toArray t)) (Fc F0 B0 ((l, .var (cs.map (AV.kill l))) :: killS l s.σ) (upd m l (.pointer (some ⟨w.heap.size, 0, none⟩)))) := by
  have hsz := S.newB
  have hk : Keeps w (Fc F0 B0 s.σ m) (w.alloc (.cells us.toArray t)) (Fc F0 B0 ((l, .var (cs.map (AV.kill l))) :: killS l s.σ) (upd m l (.pointer (some ⟨w.heap.size, 0, none⟩)))) := by
    intro b hb hlt
    refine ⟨⟨hb.1, ?_⟩, Below.heap_alloc _ _ _ hlt⟩
    intro l' o' hl'
    rw [look_cons] at hl'
    by_cases h : l' = l
    · subst h; rw [upd_same]; simp [obk]; omega
    · simp only [h, if_false, look_killS] at hl'
      rw [upd_ne _ _ h]
      cases hq : look l' s.σ with
      | none => simp [hq] at hl'
      | some q => exact hb.2 l' q hq
  refine Heap.lay S.toHeap l _ 0 _ ?_ (by simp) rfl rfl rfl ?_ ?_
  · intro b hb _; exact Below.heap_alloc _ _ _ hb
  · intro g hg; simp [obk] at hg; subst hg; exact .inl (Nat.le_refl _)
  · refine ⟨w.heap.size, us, t, upd_same _ _ _, hsz _ (Nat.le_refl _), heap_alloc_new w _, ?_, h1⟩
    exact AV.relL_kill hk (fun l' h => ⟨upd_ne _ _ h, upd_ne _ _ h⟩) hr

theorem killT (l : Nat) : ∀ (xs : List TV), (xs.map AV.t).map (AV.kill l) = xs.map .t
  | [] => rfl
  | x :: xs => by simp only [List.map_cons, killT l xs]; rfl

theorem heap_row {s : St} {a : Act} (S : Sim N B0 F0 w0 s m kk a w) (l : Nat) {w' : World} (e : TypeId) (k : Nat) (es : List (List TV)) (v : Value) (us : List Value) (hk0 : 0 < k)
    (hb : Below w.heap.size w w') (hown : w'.ownsRow w.heap.size e k v es.length us) (hrel : TV.relR w' (fun b => Fc F0 B0 s.σ m b ∧ obk v ≠ some b) k es us) (h1 : OneAll us) :
    Heap B0 F0 w0 ((l, .row e k es) :: killS l s.σ) (upd m l v) (upd kk l k) w' ∧ Keeps w (Fc F0 B0 s.σ m) w' (Fc F0 B0 ((l, .row e k es) :: killS l s.σ) (upd m l v)) := by
  have hsz := S.newB
  refine Heap.lay S.toHeap l v k _ (fun b hb' _ => hb.block b hb') hb.size hb.os hb.tape hb.output ?_ ?_
  · intro g hg
    left
    rcases hown.2 with ⟨hn, _⟩ | ⟨g', cap, cur, hv, hB, _⟩
    · rw [hn] at hg; simp [obk] at hg
    · rw [hv] at hg; simp [obk] at hg; omega
  · refine ⟨us, ?_, ?_, h1, hk0, upd_same _ _ _⟩
    · rw [upd_same]
      refine ⟨⟨hown.1, ?_⟩, fun g hg => ?_⟩
      · rcases hown.2 with h | ⟨g', cap, cur, hv, hB, rest⟩
        · exact .inl h
        · exact .inr ⟨g', cap, cur, hv, Nat.zero_le _, rest⟩
      · rcases hown.2 with ⟨hn, _⟩ | ⟨g', cap, cur, hv, hB, _⟩
        · rw [hn] at hg; simp [obk] at hg
        · rw [hv] at hg; simp [obk] at hg; subst hg; exact hsz _ hB
    · refine TV.relR_keep (keeps_mono ?_) k es us hrel
      rintro b ⟨hb1, hb2⟩
      refine ⟨hb1.1, ?_⟩
      intro l' o' hl'
      rw [look_cons] at hl'
      by_cases h : l' = l
      · subst h; rw [upd_same]; exact hb2
      · simp only [h, if_false, look_killS] at hl'
        rw [upd_ne _ _ h]
        cases hq : look l' s.σ with
        | none => simp [hq] at hl'
        | some q => exact hb1.2 l' q hq
end
end Go.Proofs.Ytpakohboamfmjab.Pl
