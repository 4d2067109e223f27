/- Values with handles, states, and what a piece of code comes to. -/
import Derived.Test.YtpakohboamfmjabPlTv
namespace Go.Proofs.Ytpakohboamfmjab.Pl
open Go.RowKit

inductive AV where
  | t (x : TV)
  | ptr (l off : Nat)
  | rp (l i j : Nat)
  | sl (l : Nat)
  | sb (l i n : Nat)
  | agg (cs : List AV)
  | tup (vs : List AV)
  | fn (f : FuncId) (caps : List AV)
  | junk
  deriving Inhabited

inductive AO where
  | var (cs : List AV)
  | row (e : TypeId) (k : Nat) (es : List (List TV))

structure St where
  φ : List (Nat × AV)
  σ : List (Nat × AO)

def look {α : Type} (t : Nat) : List (Nat × α) → Option α
  | [] => none
  | (k, v) :: r => bif Nat.beq t k then some v else look t r

inductive Ty where
  | bool | int (k : IntKind) | string | ptr | slice (e : TypeId) | array (n : Nat) (e : TypeId)
  | struct (fs : List (Nat × TypeId)) | map (k e : TypeId) | func | iface

structure TI where
  d : Ty
  size : Nat
  bytes : Nat
  zero : List TV
  eqs : List Nat := []      -- a struct that '==' compares part by part: its cells' kinds

abbrev TyTab := TypeId → Option TI

def Ty.agg : Ty → Bool
  | .struct _ | .array _ _ => true
  | _ => false

/-! ### Operations on values -/
def vi (n : Int) : AV := .t (.v (.int .i64 n))
def vb (b : Bool) : AV := .t (.v (.bool b))

def allT : List AV → Option (List TV)
  | [] => some []
  | .t x :: r => match allT r with | some xs => some (x :: xs) | none => none
  | _ :: _ => none

/-- A struct's or an array's value out of its cells. -/
def mkAgg (cs : List AV) : AV := match allT cs with | some xs => .t (.agg xs) | none => .agg cs

def mkTup (cs : List AV) : AV := match allT cs with | some xs => .t (.tup xs) | none => .tup cs

/-- The cells of a value. -/
def cellsOf : AV → Option (List AV)
  | .t (.agg xs) => some (xs.map .t)
  | .t (.tup _) | .tup _ | .junk => none
  | .agg cs => some cs
  | x => some [x]

/-- The cells of a struct's or an array's value. -/
def aggCells : AV → Option (List AV)
  | .t (.agg xs) => some (xs.map .t)
  | .agg cs => some cs
  | _ => none

def headT : List TV → Option TV
  | [] => none
  | x :: _ => some x

def nth {α : Type} : List α → Nat → Option α
  | [], _ => none
  | x :: _, 0 => some x
  | _ :: r, n + 1 => nth r n

/-- What a load of type ti reads. -/
def loadK (ti : TI) (σ : List (Nat × AO)) (K : AV → Prop) : AV → Prop
  | .t (.ptr cs) => bif ti.d.agg then (bif Nat.ble ti.size cs.length then K (.t (.agg (cs.take ti.size))) else False)
      else match headT cs with | some x => K (.t x) | none => False
  | .ptr l off => match look l σ with
    | some (.var cs) => bif ti.d.agg then (bif Nat.ble (off + ti.size) cs.length then K (mkAgg ((cs.drop off).take ti.size)) else False)
        else match nth cs off with | some x => K x | none => False
    | _ => False
  | .rp l i j => match look l σ with
    | some (.row _ k es) => ∃ c, es[i]? = some c ∧ (bif ti.d.agg then (bif Nat.ble (j + ti.size) k then K (.t (.agg ((c.drop j).take ti.size))) else False)
        else match nth c j with | some x => K (.t x) | none => False)
    | _ => False
  | _ => False

def fieldAddrK (T : TyTab) (s : TypeId) (f : Nat) (K : AV → Prop) (p : AV) : Prop :=
  match T s with
  | some { d := .struct fs, .. } => match nth fs f with
    | some (off, ft) => match T ft with
      | some fi => bif Nat.beq fi.size 0 then False else match p with
        | .t (.ptr cs) => K (.t (.ptr (cs.drop off)))
        | .ptr l o => K (.ptr l (o + off))
        | .rp l i j => K (.rp l i (j + off))
        | _ => False
      | none => False
    | none => False
  | _ => False

def fieldK (T : TyTab) (s : TypeId) (f : Nat) (K : AV → Prop) (x : AV) : Prop :=
  match T s with
  | some { d := .struct fs, .. } => match nth fs f with
    | some (off, ft) => match T ft with
      | some fi => match aggCells x with
        | some cs => bif fi.d.agg then (bif Nat.ble (off + fi.size) cs.length then K (mkAgg ((cs.drop off).take fi.size)) else False)
          else match nth cs off with | some y => K y | none => False
        | none => False
      | none => False
    | none => False
  | _ => False

/-- W: what is asked of a side condition (it holds; or: it holds where the guard does). -/
def indexAddrK (T : TyTab) (σ : List (Nat × AO)) (W : Prop → Prop) (t : TypeId) (K : AV → Prop) (x : AV) : AV → Prop
  | .t (.v (.int _ i)) => match T t, x with
    | some { d := .slice e, .. }, .t (.sl k es) => match T e with
      | some ei => bif Nat.beq ei.size k then ∃ c, W (0 ≤ i ∧ es[i.toNat]? = some c) ∧ K (.t (.ptr c)) else False
      | none => False
    | some { d := .slice e, .. }, .sl l => match look l σ, T e with
      | some (.row _ k es), some ei => bif Nat.beq ei.size k then W (0 ≤ i ∧ i < es.length) ∧ K (.rp l i.toNat 0) else False
      | _, _ => False
    | some { d := .slice e, .. }, .sb l o n => match look l σ, T e with
      | some (.row _ k _), some ei => bif Nat.beq ei.size k then W (0 ≤ i ∧ i < n) ∧ K (.rp l (o + i.toNat) 0) else False
      | _, _ => False
    | some { d := .array n e, .. }, .ptr l off => match T e with
      | some ei => bif Nat.ble 2 n then W (0 ≤ i ∧ i < n) ∧ K (.ptr l (off + i.toNat * ei.size)) else False
      | none => False
    | some { d := .array n e, .. }, .t (.ptr cs) => match T e with
      | some ei => bif Nat.ble 2 n then W (0 ≤ i ∧ i < n) ∧ K (.t (.ptr (cs.drop (i.toNat * ei.size)))) else False
      | none => False
    | _, _ => False
  | _ => False

def byteAt (s : ByteArray) (i : Int) : Int := (s.data.toList.getD i.toNat 0).toNat

def indexK (T : TyTab) (W : Prop → Prop) (t : TypeId) (K : AV → Prop) (x : AV) : AV → Prop
  | .t (.v (.int _ i)) => match T t, x with
    | some { d := .string, .. }, .t (.v (.string s)) => W (0 ≤ i ∧ i < s.size) ∧ K (.t (.v (.int .u8 (byteAt s i))))
    | _, _ => False
  | _ => False

def cmpI (op : BinOp) (x y : Int) : Option Bool :=
  match op with
  | .eql => some (x == y) | .neq => some (x != y) | .lss => some (decide (x < y)) | .leq => some (decide (x ≤ y))
  | .gtr => some (decide (x > y)) | .geq => some (decide (x ≥ y)) | _ => none

def wrapI (k : IntKind) (n : Int) : Int := k.wrap n

/-- Arithmetic of two whole numbers of one kind: the value, and what is asked. -/
def arI (op : BinOp) (k : IntKind) (x y : Int) : Option (Int × Prop) :=
  match op with
  | .add => some (k.wrap (x + y), True) | .sub => some (k.wrap (x - y), True) | .mul => some (k.wrap (x * y), True)
  | .quo => some (k.wrap (x.tdiv y), y ≠ 0) | .rem => some (x.tmod y, y ≠ 0)
  | .and => some (k.wrap (BitVec.ofInt k.bits x &&& BitVec.ofInt k.bits y).toNat, True)
  | .or => some (k.wrap (BitVec.ofInt k.bits x ||| BitVec.ofInt k.bits y).toNat, True)
  | .xor => some (k.wrap (BitVec.ofInt k.bits x ^^^ BitVec.ofInt k.bits y).toNat, True)
  | .andNot => some (k.wrap (BitVec.ofInt k.bits x &&& ~~~ BitVec.ofInt k.bits y).toNat, True)
  | _ => none

def cmpS (op : BinOp) (x y : ByteArray) : Option Bool :=
  match op with
  | .eql => some (x.toList == y.toList) | .neq => some (!(x.toList == y.toList))
  | .lss => some (Op.bytesLess x.toList y.toList) | .leq => some (Op.bytesLess x.toList y.toList || x.toList == y.toList)
  | .gtr => some (!(Op.bytesLess x.toList y.toList || x.toList == y.toList)) | .geq => some (!(Op.bytesLess x.toList y.toList)) | _ => none

def isEq : BinOp → Option Bool
  | .eql => some true | .neq => some false | _ => none

/-- b, or its opposite. -/
def flip (pos : Bool) (b : Bool) : Bool := bif pos then b else !b

/-- '==' of cells, in order: whole numbers (0), bools (1), strings (2). -/
def sameKind : IntKind → IntKind → Bool
  | .i8, .i8 | .i16, .i16 | .i32, .i32 | .i64, .i64 | .u8, .u8 | .u16, .u16 | .u32, .u32 | .u64, .u64 => true
  | _, _ => false

def eqCells : List Nat → List TV → List TV → Option Bool
  | [], [], [] => some true
  | 0 :: ls, .v (.int k a) :: xs, .v (.int k' b) :: ys => match eqCells ls xs ys with | some r => bif sameKind k k' then some (a == b && r) else none | none => none
  | 1 :: ls, .v (.bool a) :: xs, .v (.bool b) :: ys => match eqCells ls xs ys with | some r => some (a == b && r) | none => none
  | 2 :: ls, .v (.string a) :: xs, .v (.string b) :: ys => match eqCells ls xs ys with | some r => some (a.toList == b.toList && r) | none => none
  | _, _, _ => none

def isShift : BinOp → Bool
  | .shl | .shr => true
  | _ => false

def binK (T : TyTab) (σ : List (Nat × AO)) (W : Prop → Prop) (op : BinOp) (t : TypeId) (K : AV → Prop) (x y : AV) : Prop :=
  match x, y with
  | .t (.v (.int k a)), .t (.v (.int k' b)) =>
    bif isShift op then W (0 ≤ b) ∧ (match op with
      | .shl => K (.t (.v (.int k (k.wrap (a * 2 ^ (min b.toNat k.bits))))))
      | .shr => K (.t (.v (.int k (a.fdiv (2 ^ (min b.toNat k.bits))))))
      | _ => False)
    else bif sameKind k k' then (match cmpI op a b with
      | some r => K (vb r)
      | none => match arI op k a b with
        | some (r, side) => W side ∧ K (.t (.v (.int k r)))
        | none => False)
    else False
  | .t (.v (.string a)), .t (.v (.string b)) => match cmpS op a b with
    | some r => K (vb r)
    | none => match op with
      | .add => W (a.size + b.size ≤ 9223372036854775807) ∧ K (.t (.v (.string (a ++ b))))
      | _ => False
  | .t (.v (.bool a)), .t (.v (.bool b)) => match T t, isEq op with
    | some { d := .bool, .. }, some pos => K (vb (flip pos (a == b)))
    | _, _ => False
  | .t (.agg xs), .t (.agg ys) => match T t, isEq op with
    | some { eqs := l :: ls, .. }, some pos => match eqCells (l :: ls) xs ys with
      | some r => K (vb (flip pos r))
      | none => False
    | _, _ => False
  | .t (.sl _ es), .t (.v (.slice none 0 0)) => match T t, isEq op with
    | some { d := .slice _, .. }, some pos => ∀ b : Bool, (b = true → es = []) → K (vb (flip pos b))
    | _, _ => False
  | .t (.v (.slice none 0 0)), .t (.v (.slice none 0 0)) => match T t, isEq op with
    | some { d := .slice _, .. }, some pos => K (vb (flip pos true))
    | _, _ => False
  | .sl l, .t (.v (.slice none 0 0)) => match T t, isEq op, look l σ with
    | some { d := .slice _, .. }, some pos, some (.row _ _ es) => ∀ b : Bool, (b = true → es = []) → K (vb (flip pos b))
    | _, _, _ => False
  | _, _ => False

def unK (op : UnOp) (K : AV → Prop) (x : AV) : Prop :=
  match op, x with
  | .not, .t (.v (.bool b)) => K (vb (!b))
  | .neg, .t (.v (.int k n)) => K (.t (.v (.int k (k.wrap (0 - n)))))
  | _, _ => False

def extractK (i : Nat) (K : AV → Prop) (x : AV) : Prop :=
  match x with
  | .t (.tup vs) => match nth vs i with | some y => K (.t y) | none => False
  | .tup vs => match nth vs i with | some y => K y | none => False
  | _ => False

/-- Cells with a part put in. -/
def putAt (off : Nat) (new : List AV) (cs : List AV) : List AV := cs.take off ++ new ++ cs.drop (off + new.length)

def fillK (fs : List (Nat × TypeId)) (T : TyTab) (lk : Operand → Option AV) : List (Nat × Operand) → List AV → Option (List AV)
  | [], cs => some cs
  | (i, x) :: r, cs => match nth fs i, lk x with
    | some (off, ft), some v => match T ft, cellsOf v with
      | some fi, some new => bif Nat.beq new.length fi.size && Nat.ble (off + fi.size) cs.length then fillK fs T lk r (putAt off new cs) else none
      | _, _ => none
    | _, _ => none

def buildK (T : TyTab) (lk : Operand → Option AV) (t : TypeId) (parts : Array (Nat × Operand)) (K : AV → Prop) : Prop :=
  match T t with
  | some { d := .struct fs, zero := z, .. } => match fillK fs T lk parts.toList (z.map .t) with
    | some cs => K (mkAgg cs)
    | none => False
  | _ => False

def constA : Value → Option AV
  | .func (.func f) first caps => bif Nat.beq first.size 0 && Nat.beq caps.size 0 then some (.t (.fn f [])) else none
  | x => bif scal x then some (.t (.v x)) else none

end Go.Proofs.Ytpakohboamfmjab.Pl
namespace Go.Proofs.Ytpakohboamfmjab.Pl
open Go.RowKit

def mkFn (f : FuncId) (cs : List AV) : AV := match allT cs with | some xs => .t (.fn f xs) | none => .fn f cs

def lkAll (lk : Operand → Option AV) : List Operand → Option (List AV)
  | [] => some []
  | x :: r => match lk x, lkAll lk r with | some v, some vs => some (v :: vs) | _, _ => none

/-- The bounds of a slice expression over n elements: what is asked, and the two ends. -/
def endsOf (lk : Operand → Option AV) (n : Nat) (lo hi : Option Operand) : Option (Int × Int) :=
  match (match lo with | none => some (0 : Int) | some x => match lk x with | some (.t (.v (.int _ i))) => some i | _ => none),
        (match hi with | none => some (n : Int) | some x => match lk x with | some (.t (.v (.int _ i))) => some i | _ => none) with
  | some a, some b => some (a, b)
  | _, _ => none

def sliceK (T : TyTab) (lk : Operand → Option AV) (σ : List (Nat × AO)) (W : Prop → Prop) (t : TypeId) (lo hi mx : Option Operand) (K : AV → Prop) (x : AV) : Prop :=
  match T t, x with
  | some { d := .string, .. }, .t (.v (.string s)) => match mx with
    | none => match endsOf lk s.size lo hi with
      | some (a, b) => W (0 ≤ a ∧ a ≤ b ∧ b ≤ s.size) ∧ K (.t (.v (.string (s.extract a.toNat b.toNat))))
      | none => False
    | some _ => False
  | some { d := .slice e, .. }, .t (.sl k es) => match mx, T e with
    | none, some ei => bif Nat.beq ei.size k then (match endsOf lk es.length lo hi with
      | some (a, b) => W (0 ≤ a ∧ a ≤ b ∧ b ≤ es.length) ∧ K (.t (.sl k ((es.take b.toNat).drop a.toNat)))
      | none => False) else False
    | _, _ => False
  | some { d := .slice e, .. }, .sl l => match mx, T e, look l σ with
    | none, some ei, some (.row _ k es) => bif Nat.beq ei.size k then (match endsOf lk es.length lo hi with
      | some (a, b) => W (0 ≤ a ∧ a ≤ b ∧ b ≤ es.length) ∧ K (.sb l (0 + a.toNat) (b.toNat - a.toNat))
      | none => False) else False
    | _, _, _ => False
  | some { d := .slice e, .. }, .sb l o n => match mx, T e, look l σ with
    | none, some ei, some (.row _ k _) => bif Nat.beq ei.size k then (match endsOf lk n lo hi with
      | some (a, b) => W (0 ≤ a ∧ a ≤ b ∧ b ≤ n) ∧ K (.sb l (o + a.toNat) (b.toNat - a.toNat))
      | none => False) else False
    | _, _, _ => False
  | _, _ => False

def lenK (T : TyTab) (σ : List (Nat × AO)) (t : TypeId) (K : AV → Prop) (x : AV) : Prop :=
  match T t, x with
  | some { d := .string, .. }, .t (.v (.string s)) => K (vi s.size)
  | some { d := .slice _, .. }, .t (.sl _ es) => K (vi es.length)
  | some { d := .slice _, .. }, .t (.v (.slice none 0 0)) => K (vi 0)
  | some { d := .slice _, .. }, .sl l => match look l σ with
    | some (.row _ _ es) => K (vi es.length)
    | _ => False
  | some { d := .slice _, .. }, .sb _ _ n => K (vi n)
  | some { d := .array n _, .. }, _ => K (vi n)
  | _, _ => False

def maxMinK (mx : Bool) (K : AV → Prop) : List AV → Prop
  | [.t (.v (.int k a)), .t (.v (.int k' b))] => bif sameKind k k' then K (.t (.v (.int k (if mx then (if b > a then b else a) else (if b < a then b else a))))) else False
  | _ => False

/-- An operation that yields a value and leaves memory as it is. -/
def yieldK (T : TyTab) (lk : Operand → Option AV) (σ : List (Nat × AO)) (W : Prop → Prop) (op : Op) (K : AV → Prop) : Prop :=
  match op with
  | .move x => match lk x with | some v => K v | none => False
  | .assign x => match lk x with | some v => K v | none => False
  | .load t a => match T t, lk a with | some ti, some p => loadK ti σ K p | _, _ => False
  | .fieldAddr s x f => match lk x with | some p => fieldAddrK T s f K p | none => False
  | .field s x f => match lk x with | some v => fieldK T s f K v | none => False
  | .indexAddr t x i => match lk x, lk i with | some v, some j => indexAddrK T σ W t K v j | _, _ => False
  | .index t x i => match lk x, lk i with | some v, some j => indexK T W t K v j | _, _ => False
  | .binOp op t x y _ => match lk x, lk y with | some a, some b => binK T σ W op t K a b | _, _ => False
  | .unOp op _ x => match lk x with | some v => unK op K v | none => False
  | .convert src dst x => match T src, T dst, lk x with
    | some _, some { d := .int k, .. }, some (.t (.v (.int _ n))) => K (.t (.v (.int k (k.wrap n))))
    | _, _, _ => False
  | .extract x i => match lk x with | some v => extractK i K v | none => False
  | .build t parts => buildK T lk t parts K
  | .nilCheck x => match lk x with
    | some (.ptr l o) => K (.ptr l o)
    | some (.rp l i j) => K (.rp l i j)
    | some (.t (.ptr cs)) => K (.t (.ptr cs))
    | some (.t (.fn f cs)) => K (.t (.fn f cs))
    | some (.fn f cs) => K (.fn f cs)
    | _ => False
  | .makeFunc (.func f) first caps => match first.toList, lkAll lk caps.toList with
    | [], some cs => K (mkFn f cs)
    | _, _ => False
  | .makeInterface t x => match T t, lk x with
    | some { d := .iface, .. }, _ => False
    | some _, some (.t v) => K (.t (.iface t v))
    | _, _ => False
  | .slice t x lo hi mx => match lk x with | some v => sliceK T lk σ W t lo hi mx K v | none => False
  | .call { callee := .builtin .len, args := as, argTypes := ts } => match lkAll lk as.toList, ts.toList with
    | some [x], [t] => lenK T σ t K x
    | _, _ => False
  | .call { callee := .builtin .max, args := as, .. } => match lkAll lk as.toList with | some xs => maxMinK true K xs | none => False
  | .call { callee := .builtin .min, args := as, .. } => match lkAll lk as.toList with | some xs => maxMinK false K xs | none => False
  | _ => False
end Go.Proofs.Ytpakohboamfmjab.Pl
