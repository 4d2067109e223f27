/- Regions: what their operations come to, in the order of the text. -/
import Derived.Test.YtpakohboamfmjabPlHeap
import Derived.Maps.AppendAt
namespace Go.Proofs.Ytpakohboamfmjab.Pl
open Go.RowKit

/-! ### Trees out of handles -/
def mapO {α β : Type} (f : α → Option β) : List α → Option (List β)
  | [] => some []
  | x :: r => match f x, mapO f r with | some y, some ys => some (y :: ys) | _, _ => none

/-- What a value reads as. -/
def borrow (σ : List (Nat × AO)) : Nat → AV → Option TV
  | 0, _ => none
  | n + 1, x => match x with
    | .t x => some x
    | .ptr l off => match look l σ with
      | some (.var cs) => match mapO (borrow σ n) (cs.drop off) with | some xs => some (.ptr xs) | none => none
      | _ => none
    | .rp l i j => match look l σ with
      | some (.row _ _ es) => some (.ptr ((es.getD i []).drop j))
      | _ => none
    | .sl l => match look l σ with
      | some (.row _ k es) => some (.sl k es)
      | _ => none
    | .sb l i c => match look l σ with
      | some (.row _ k es) => bif Nat.ble (i + c) es.length then some (.sl k ((es.drop i).take c)) else none
      | _ => none
    | .agg cs => match mapO (borrow σ n) cs with | some xs => some (.agg xs) | none => none
    | .tup vs => match mapO (borrow σ n) vs with | some xs => some (.tup xs) | none => none
    | .fn f caps => match mapO (borrow σ n) caps with | some xs => some (.fn f xs) | none => none
    | .junk => none

/-- The objects that a value leads to. -/
def reach (σ : List (Nat × AO)) : Nat → AV → List Nat
  | 0, _ => []
  | n + 1, x => match x with
    | .t _ | .junk => []
    | .ptr l _ => match look l σ with
      | some (.var cs) => l :: cs.flatMap (reach σ n)
      | _ => [l]
    | .rp l _ _ | .sl l | .sb l _ _ => [l]
    | .agg cs | .tup cs | .fn _ cs => cs.flatMap (reach σ n)

def mem (l : Nat) : List Nat → Bool
  | [] => false
  | x :: r => Nat.beq l x || mem l r

/-- A value behind the freezing of some objects. -/
def AV.frz (σ : List (Nat × AO)) (ls : List Nat) (x : AV) : AV :=
  match x with
  | .t x => .t x
  | x => bif ls.all (fun l => x.free l) then x else match borrow σ 8 x with
      | some y => bif (reach σ 8 x).all (fun l => mem l ls) then .t y else .junk
      | none => .junk

def AO.frz (σ : List (Nat × AO)) (ls : List Nat) : AO → AO
  | .var cs => .var (cs.map (AV.frz σ ls))
  | o => o

def St.frz (ls : List Nat) (s : St) : St :=
  ⟨s.φ.map fun p => (p.1, p.2.frz s.σ ls), (s.σ.filter fun p => !mem p.1 ls).map fun p => (p.1, p.2.frz s.σ ls)⟩

/-- Values made trees: as they are if they are; else what they lead to is frozen. -/
def St.freeze (s : St) (vs : List AV) : Option (List TV × St) :=
  match allT vs with
  | some xs => some (xs, s)
  | none => match mapO (borrow s.σ 8) vs with
    | some xs => some (xs, s.frz (vs.flatMap (reach s.σ 8)))
    | none => none

def forceL (K : List Nat → Prop) : List Nat → Prop
  | [] => K []
  | x :: r => forceL (fun r' => K (x :: r')) r
def sealFK (σ : List (Nat × AO)) (ls : List Nat) (K : List (Nat × AV) → Prop) : List (Nat × AV) → Prop
  | [] => K []
  | (k, v) :: r => match v.frz σ ls with
    | .t x => sealFK σ ls (fun r' => K ((k, .t x) :: r')) r
    | .junk => sealFK σ ls (fun r' => K ((k, .junk) :: r')) r
    | v' => sealFK σ ls (fun r' => K ((k, v') :: r')) r
def sealSK (σ : List (Nat × AO)) (ls : List Nat) (K : List (Nat × AO) → Prop) : List (Nat × AO) → Prop
  | [] => K []
  | (k, o) :: r => bif mem k ls then sealSK σ ls K r else sealSK σ ls (fun r' => K ((k, o.frz σ ls) :: r')) r
/-- St.freeze, written out. -/
def freezeK (s : St) (vs : List AV) (K : List TV → St → Prop) : Prop :=
  match allT vs with
  | some xs => K xs s
  | none => match mapO (borrow s.σ 8) vs with
    | some xs => forceL (fun ls => sealFK s.σ ls (fun φ' => sealSK s.σ ls (fun σ' => K xs ⟨φ', σ'⟩) s.σ) s.φ) (vs.flatMap (reach s.σ 8))
    | none => False

theorem forceL_eq : ∀ (ls : List Nat) (K : List Nat → Prop), forceL K ls = K ls
  | [], _ => rfl
  | x :: r, K => by simp only [forceL, forceL_eq r]
theorem sealFK_eq (σ : List (Nat × AO)) (ls : List Nat) : ∀ (φ : List (Nat × AV)) (K : List (Nat × AV) → Prop), sealFK σ ls K φ = K (φ.map fun p => (p.1, p.2.frz σ ls))
  | [], _ => rfl
  | (k, v) :: r, K => by
    simp only [sealFK, sealFK_eq σ ls r, List.map_cons]
    split <;> simp [*]
theorem sealSK_eq (σ : List (Nat × AO)) (ls : List Nat) : ∀ (τ : List (Nat × AO)) (K : List (Nat × AO) → Prop), sealSK σ ls K τ = K ((τ.filter fun p => !mem p.1 ls).map fun p => (p.1, p.2.frz σ ls))
  | [], _ => rfl
  | (k, o) :: r, K => by
    simp only [sealSK, sealSK_eq σ ls r, List.filter_cons]
    cases mem k ls <;> simp
theorem freezeK_spec {s : St} {vs : List AV} {K : List TV → St → Prop} (h : freezeK s vs K) : ∃ xs s', s.freeze vs = some (xs, s') ∧ K xs s' := by
  unfold freezeK at h
  split at h
  · rename_i xs hx
    exact ⟨xs, s, by unfold St.freeze; rw [hx], h⟩
  · rename_i hx
    split at h
    · rename_i xs hxs
      rw [forceL_eq, sealFK_eq, sealSK_eq] at h
      exact ⟨xs, s.frz (vs.flatMap (reach s.σ 8)), by unfold St.freeze; rw [hx, hxs], h⟩
    · exact h.elim

/-- Does a tree lead to memory? -/
def TV.plain : TV → Bool
  | .v _ => true
  | .tup [] => true
  | .tup [.v _, .v _] => true
  | .tup [.v _, .v _, .v _] => true
  | _ => false

def St.lay (s : St) (l : Nat) (o : AO) : St := ⟨killF l s.φ, (l, o) :: killS l s.σ⟩
def St.bind (s : St) (d : Option Tmp) (v : AV) : St := match d with | some d => ⟨(d, v) :: s.φ, s.σ⟩ | none => s

/-! ### What a call of a function comes to -/
/-- Called with these trees the function hands back this one; it leaves what was there as it was. -/
def PC (P : Program) (f : FuncId) (args : List TV) (r : TV) : Prop :=
  ∀ (w : World) (F : Nat → Prop) (us : List Value), (∀ b, F b → b < w.heap.size) → TV.relL w F args us →
    Calls P f us.toArray w fun e w' => ∃ v, e = .returned v ∧ Below w.heap.size w w' ∧ r.rel w' (fun b => F b ∨ w.heap.size ≤ b) v

/-- The same; what it hands back is a slice of its own. -/
def OC (P : Program) (f : FuncId) (args : List TV) (e : TypeId) (k : Nat) (es : List (List TV)) : Prop :=
  ∀ (w : World) (F : Nat → Prop) (us : List Value), (∀ b, F b → b < w.heap.size) → TV.relL w F args us →
    Calls P f us.toArray w fun e' w' => ∃ v vs, e' = .returned v ∧ Below w.heap.size w w' ∧ 0 < k ∧ w'.ownsRow w.heap.size e k v es.length vs ∧ OneAll vs ∧
      TV.relR w' (fun b => (F b ∨ w.heap.size ≤ b) ∧ obk v ≠ some b) k es vs

/-- Called with a row of the caller's own, and trees, it hands back a row: the same in place, or a new one. -/
def IC (P : Program) (f : FuncId) (e : TypeId) (k : Nat) (es : List (List TV)) (args : List TV) (es' : List (List TV)) : Prop :=
  ∀ (w : World) (F : Nat → Prop) (v : Value) (vs us : List Value), (∀ b, F b → b < w.heap.size) → 0 < k → w.ownsRow 0 e k v es.length vs → OneAll vs → TV.relR w F k es vs → TV.relL w F args us →
    (∀ g, obk v = some g → ¬ F g) →
    Calls P f (v :: us).toArray w fun en w' => ∃ v' vs', en = .returned v' ∧ Kept (fun g => w.heap.size ≤ g ∨ obk v = some g) w w' ∧
      w'.ownsRow 0 e k v' es'.length vs' ∧ (∀ g, obk v' = some g → w.heap.size ≤ g ∨ obk v = some g) ∧ OneAll vs' ∧
      TV.relR w' (fun b => (F b ∨ w.heap.size ≤ b ∨ obk v = some b) ∧ obk v' ≠ some b) k es' vs'

end Go.Proofs.Ytpakohboamfmjab.Pl
