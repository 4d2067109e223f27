/- Regions that draw their order: what is read first, in whatever order; then what is written, in order. -/
import Derived.Test.YtpakohboamfmjabPlFn
namespace Go.Proofs.Ytpakohboamfmjab.Pl
open Go.RowKit

/-- Operations whose value hangs on nothing that is left open. -/
def detOp (T : TyTab) : Op → Bool
  | .binOp _ t _ _ _ => match T t with
    | some { d := .slice _, .. } => false
    | _ => true
  | _ => true

def effectOp : Op → Bool
  | .store .. | .call { callee := .builtin .append, .. } | .mapUpdate .. => true
  | _ => false

/-- A literal of a slice, as a tree; no handles. -/
def bsG (T : TyTab) (t : TypeId) (n : Nat) (parts : List (Nat × Operand)) (lk : Operand → Option AV) (K : AV → Prop) : Prop :=
  match T t with
  | some { d := .slice e, .. } => match T e, lkAll lk (parts.map (·.2)) with
    | some ei, some vs => match allT vs with
      | some xs => match mapO cellsT xs with
        | some es => bif seqFrom 0 parts && Nat.beq parts.length n && allLen ei.size es && Nat.ble (n * ei.size) 16777216 && Nat.blt 0 ei.size then K (.t (.sl ei.size es)) else False
        | none => False
      | none => False
    | _, _ => False
  | _ => False

inductive DK where
  | quiet | alloc (t : TypeId) | lit (t : TypeId) (n : Nat) (parts : Array (Nat × Operand)) | pick (c a b : Operand)

def kindD : Op → DK
  | .alloc t => .alloc t
  | .buildSlice t n parts => .lit t n parts
  | .pick c a b => .pick c a b
  | _ => .quiet

def evD (T : TyTab) (P : Program) (N : Nat) (ops : Array Oper) (s : St) : List Oper → List (Nat × GE) → List (Nat × AO) → (List (Nat × GE) → List (Nat × AO) → List Oper → Prop) → Prop
  | [], ψ, ν, K => K ψ ν []
  | o :: os, ψ, ν, K =>
    bif effectOp o.op then K ψ ν (o :: os) else
    match o.dst with
    | none => False
    | some d => bif Nat.blt d N && !clashG d ψ then (match o.guard with
      | none => match kindD o.op with
        | .alloc t => match T t with
          | some ti => evD T P N ops s os ((d, ⟨[], True, .ptr d 0⟩) :: ψ) ((d, .var (ti.zero.map .t)) :: ν) K
          | none => False
        | .lit t n parts => bsG T t n parts.toList (opd ψ s.φ []) (fun v => evD T P N ops s os ((d, ⟨[], True, v⟩) :: ψ) ν K)
        | .pick c a b => match pickV (opd ψ s.φ) [] c a b with
          | some x => evD T P N ops s os ((d, ⟨[], True, vb x⟩) :: ψ) ν K
          | none => False
        | .quiet => bif detOp T o.op then evG T P True o (opd ψ s.φ []) s (fun v => evD T P N ops s os ((d, ⟨[], True, v⟩) :: ψ) ν K) else False
      | some (j, want) => match guardOf ops ψ s.φ j want with
        | some (gs, G) => bif namesG d gs then False else match kindD o.op with
          | .pick c a b => match pickV (opd ψ s.φ) gs c a b with
            | some x => evD T P N ops s os ((d, ⟨gs, G, vb x⟩) :: ψ) ν K
            | none => False
          | .quiet => bif detOp T o.op then evG T P G o (opd ψ s.φ gs) s (fun v => evD T P N ops s os ((d, ⟨gs, G, v⟩) :: ψ) ν K) else False
          | _ => False
        | none => False) else False

def toF : List (Nat × GE) → List (Nat × AV) → List (Nat × AV)
  | [], φ => φ
  | (d, ⟨[], _, v⟩) :: r, φ => (d, v) :: toF r φ
  | (d, ⟨_ :: _, _, _⟩) :: r, φ => (d, .junk) :: toF r φ

/-- Is what is new named by nothing else? -/
def freeD (d : Nat) : List (Nat × GE) → Bool
  | [] => true
  | (t, e) :: r => (Nat.beq t d || e.v.free d) && freeD d r
def freshD (s : St) (ψ : List (Nat × GE)) : List (Nat × AO) → Bool
  | [] => true
  | (d, _) :: r => freeF d s.φ && freeS d s.σ && freeD d ψ && freshD s ψ r

/-! ### The text's own part: who waits for whom -/
def tmpsOf (ops : Array Oper) (o : Oper) : List Tmp := o.looksAt ops
def preLen : List Oper → Nat
  | [] => 0
  | o :: r => bif effectOp o.op then 0 else preLen r + 1
def hasEdge (j : Nat) (o : Oper) : Bool := o.after.toList.any fun e => Nat.beq e.on j && Region.binds .any e
def dstIs (ops : Array Oper) (j : Nat) (t : Tmp) : Bool := match (ops[j]?).bind (·.dst) with | some d => Nat.beq d t | none => false
def coverB (ops : Array Oper) (j : Nat) : Nat → Oper → Bool
  | 0, o => hasEdge j o
  | f + 1, o => hasEdge j o || o.after.toList.any fun e => Region.binds .any e && match ops[e.on]? with | some o' => coverB ops j f o' | none => false
/-- Each operation of the first n: it waits for who writes what it looks at; its edges go back. The others come in their own order, behind all of the first n. -/
def drawOK (ops : Array Oper) (n : Nat) : Bool :=
  (List.range ops.size).all fun i => match ops[i]? with
    | none => true
    | some o =>
      (o.after.toList.all fun e => !Region.binds .any e || Nat.blt e.on i) &&
      bif Nat.blt i n then
        (List.range n).all fun j => !((o.looksAt ops).any fun t => dstIs ops j t) || hasEdge j o
      else bif Nat.beq i n then (List.range n).all fun j => coverB ops j 8 o else hasEdge (i - 1) o

def evDraw (T : TyTab) (P : Program) (own : List Nat) (N : Nat) (ops : Array Oper) (s : St) (Q : St → Prop) : Prop :=
  bif drawOK ops (preLen ops.toList) then evD T P N ops s ops.toList [] [] (fun ψ ν rest =>
    bif freshD s ψ ν then evOps T P own N ops rest [] ⟨toF ψ s.φ, ν ++ s.σ⟩ Q else False) else False
end Go.Proofs.Ytpakohboamfmjab.Pl
